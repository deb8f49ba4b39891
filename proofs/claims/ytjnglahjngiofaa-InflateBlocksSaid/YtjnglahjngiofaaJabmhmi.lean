/- Texts joined: InfM Xor16 RSto RStoM TokR InfMono JoinP InfUp InfSim InfWays FixR. Conditions: each theorem says its own. -/
import Derived.WalkKit
import Derived.Laws.BitsAllLaws
import Derived.Test.YtjnglahjngiofaaJcmeihm
namespace Go.Proofs.Ytjnglahjngiofaa
open Go.RowKit

/-- Two codes that begin alike are one. -/
theorem ext_same (L : Nat → Nat) (n : Nat) (h15 : ∀ i, i < n → L i ≤ 15) (s t : Nat) (hs : InAll L n s) (ht : InAll L n t) (h : Ext (bitsF L n) L (bitsF L n s) (L s) t) : s = t := by
  rcases Nat.lt_trichotomy s t with hlt | rfl | hgt
  · exact absurd h (free_pre L n t ht.1 ht.2 h15 s ⟨hlt, hs.2⟩)
  · rfl
  · rcases Nat.lt_or_ge (L s) (L t) with hl | hl
    · exfalso
      obtain ⟨h1, h2⟩ := h
      have ha : ahead L s t = true := by
        unfold ahead
        rw [decide_eq_true hs.2, decide_eq_true hl]
        rfl
      have := code_apart L n s t hs.1 ha (h15 t ht.1)
      unfold bitsF at h2
      rw [if_pos hs.2, if_pos ht.2] at h2
      exact this h2
    · exfalso
      have he : L s = L t := Nat.le_antisymm h.1 hl
      refine free_pre L n s hs.1 hs.2 h15 t ⟨hgt, ht.2⟩ ⟨hl, ?_⟩
      have h2 := h.2
      rw [he, Nat.sub_self, Nat.pow_zero, Nat.div_one] at h2 ⊢
      exact h2.symm
/-- What comes next is one. -/
theorem next_one (L : Nat → Nat) (n : Nat) (h15 : ∀ i, i < n → L i ≤ 15) {X nb p s e t s' e' t' : Nat} (h : NextOut (bitsF L n) L (InAll L n) X nb p s e t) (k : NextOut (bitsF L n) L (InAll L n) X nb p s' e' t') : s = s' ∧ e = e' ∧ t = t' := by
  have key : ∀ {s e t s' e' t' : Nat}, NextOut (bitsF L n) L (InAll L n) X nb p s e t → NextOut (bitsF L n) L (InAll L n) X nb p s' e' t' → ¬ t < t' := by
    intro s e t s' e' t' h k hlt
    obtain ⟨h1, _, h3⟩ := h
    obtain ⟨_, k2, _⟩ := k
    obtain ⟨a1, σ, a2, a3, a4⟩ := k2 t h1 hlt
    rcases h3 with ⟨b1, _⟩ | ⟨_, b2, _⟩ | ⟨_, b2, b3, b4, _⟩
    · omega
    · exact b2 σ a2 a3
    · have : s = σ := ext_same L n h15 s σ b2 a2 (by rw [b4, b3]; exact a3)
      subst this
      omega
  have ht : t = t' := by
    rcases Nat.lt_trichotomy t t' with h1 | h1 | h1
    · exact absurd h1 (key h k)
    · exact h1
    · exact absurd h1 (key k h)
  subst ht
  obtain ⟨_, _, h3⟩ := h
  obtain ⟨_, _, k3⟩ := k
  rcases h3 with ⟨b1, rfl, rfl⟩ | ⟨b0, b2, rfl, rfl⟩ | ⟨b0, b2, b3, b4, rfl⟩
  · rcases k3 with ⟨c1, rfl, rfl⟩ | ⟨c0, _⟩ | ⟨c0, _⟩
    · exact ⟨rfl, rfl, rfl⟩
    · omega
    · omega
  · rcases k3 with ⟨c1, _⟩ | ⟨_, _, rfl, rfl⟩ | ⟨c0, c2, c3, c4, _⟩
    · omega
    · exact ⟨rfl, rfl, rfl⟩
    · exact absurd ⟨Nat.le_of_eq c3.symm, by rw [c3, Nat.sub_self, Nat.pow_zero, Nat.div_one]; exact c4⟩ (b2 s' c2)
  · rcases k3 with ⟨c1, _⟩ | ⟨c0, c2, _⟩ | ⟨c0, c2, c3, c4, rfl⟩
    · omega
    · exact absurd ⟨Nat.le_of_eq b3.symm, by rw [b3, Nat.sub_self, Nat.pow_zero, Nat.div_one]; exact b4⟩ (c2 s b2)
    · refine ⟨?_, rfl, rfl⟩
      exact ext_same L n h15 s s' b2 c2 ⟨by omega, by rw [b3, c3, Nat.sub_self, Nat.pow_zero, Nat.div_one, b4, c4]⟩

/-- How far a stream has been read: what is left as a number, how many bits that has, how many bytes have come out. -/
structure Sg where
  X : Nat
  n : Nat
  out : Nat
/-- The next symbol. -/
noncomputable def nextR (L : Nat → Nat) (c X n : Nat) : Nat × Nat × Nat := by
  classical
  exact if h : ∃ r : Nat × Nat × Nat, NextOut (bitsF L c) L (InAll L c) X n 0 r.1 r.2.1 r.2.2 then Classical.choose h else (0, 3, 1)
theorem nextR_of (L : Nat → Nat) (c : Nat) (h15 : ∀ i, i < c → L i ≤ 15) {X n s e t : Nat} (h : NextOut (bitsF L c) L (InAll L c) X n 0 s e t) : nextR L c X n = (s, e, t) := by
  classical
  unfold nextR
  have hex : ∃ r : Nat × Nat × Nat, NextOut (bitsF L c) L (InAll L c) X n 0 r.1 r.2.1 r.2.2 := ⟨(s, e, t), h⟩
  rw [dif_pos hex]
  obtain ⟨h1, h2, h3⟩ := next_one L c h15 (Classical.choose_spec hex) h
  rw [← h1, ← h2, ← h3]
/-- From a place on. -/
theorem NextOut.rest {F L : Nat → Nat} {In : Nat → Prop} {X nb p s e t : Nat} (h : NextOut F L In X nb p s e t) (hp : p ≤ nb) : NextOut F L In X (nb - p) 0 s e t := by
  obtain ⟨h1, h2, h3⟩ := h
  refine ⟨h1, fun m a b => ?_, ?_⟩
  · obtain ⟨c, d⟩ := h2 m a b
    exact ⟨by omega, d⟩
  · rcases h3 with ⟨a, b⟩ | ⟨a, b⟩ | ⟨a, b⟩
    · exact .inl ⟨by omega, b⟩
    · exact .inr (.inl ⟨by omega, b⟩)
    · exact .inr (.inr ⟨by omega, b⟩)

abbrev Rs (α : Type) := Except Nat (α × Sg)
/-- One thing behind the other. -/
def thenR {α β : Type} (x : Rs α) (f : α → Sg → Rs β) : Rs β :=
  match x with
  | .error e => .error e
  | .ok (a, σ) => f a σ
theorem thenR_ok {α β : Type} (a : α) (σ : Sg) (f : α → Sg → Rs β) : thenR (.ok (a, σ)) f = f a σ := rfl
theorem thenR_err {α β : Type} (e : Nat) (f : α → Sg → Rs β) : thenR (.error e : Rs α) f = .error e := rfl

/-- k bits. -/
def bitsM (k : Nat) (σ : Sg) : Rs Nat := if σ.n < k then .error 6 else .ok (σ.X % 2 ^ k, ⟨σ.X / 2 ^ k, σ.n - k, σ.out⟩)
/-- A symbol. -/
noncomputable def symM (L : Nat → Nat) (c : Nat) (σ : Sg) : Rs Nat :=
  if (nextR L c σ.X σ.n).2.1 = 0 then .ok ((nextR L c σ.X σ.n).1, ⟨σ.X / 2 ^ (nextR L c σ.X σ.n).2.2, σ.n - (nextR L c σ.X σ.n).2.2, σ.out⟩) else .error (nextR L c σ.X σ.n).2.1
/-- k bytes more come out. -/
def growM (most k : Nat) (σ : Sg) : Rs Unit := if most < σ.out + k then .error 2 else .ok ((), ⟨σ.X, σ.n, σ.out + k⟩)
def checkM (ok : Prop) [Decidable ok] (e : Nat) (σ : Sg) : Rs Unit := if ok then .ok ((), σ) else .error e

/-- One token, or the end. -/
noncomputable def tokStep (L : Nat → Nat) (c : Nat) (D : Nat → Nat) (d most : Nat) (σ : Sg) : Rs (Option Tok) :=
  thenR (symM L c σ) fun s σ1 =>
    if s = 256 then .ok (none, σ1)
    else if s < 256 then thenR (growM most 1 σ1) fun _ σ2 => .ok (some ⟨UInt8.ofNat s, 0, 0⟩, σ2)
    else if 285 < s then .error 3
    else thenR (bitsM (sizeS false ((s : Int) - 257)).2 σ1) fun b σ2 =>
      thenR (symM D d σ2) fun q σ3 =>
        if 29 < q then .error 3
        else thenR (bitsM (sizeS true (q : Int)).2 σ3) fun g σ4 =>
          if σ4.out < (sizeS true (q : Int)).1 + g then .error 3
          else thenR (growM most ((sizeS false ((s : Int) - 257)).1 + b) σ4) fun _ σ5 => .ok (some ⟨0, (((sizeS false ((s : Int) - 257)).1 + b : Nat) : Int), (((sizeS true (q : Int)).1 + g : Nat) : Int)⟩, σ5)
/-- The tokens of a block. -/
noncomputable def tokM (L : Nat → Nat) (c : Nat) (D : Nat → Nat) (d most : Nat) : Nat → Sg → List Tok → Rs (List Tok)
  | 0, _, _ => .error 0
  | f + 1, σ, S => thenR (tokStep L c D d most σ) fun t σ1 =>
      match t with
      | none => .ok (S, σ1)
      | some t => tokM L c D d most f σ1 (S ++ [t])
instance (p s : Nat) : Decidable (Fits p s) := by unfold Fits; infer_instance
/-- Are these lengths codes? -/
def fitM (m : Nat → Int) (c : Nat) (σ : Sg) : Rs Unit := checkM (Fits (parts (lens m) c) (someOf (lens m) c)) 3 σ
noncomputable def tokensM (m : Nat → Int) (c : Nat) (md : Nat → Int) (d most : Nat) (σ : Sg) : Rs (List Tok) :=
  thenR (fitM m c σ) fun _ σ1 => thenR (fitM md d σ1) fun _ σ2 => tokM (lens m) c (lens md) d most (σ2.n + 1) σ2 []

/-- k bytes off a number. -/
def bytesX (X : Nat) : Nat → List UInt8
  | 0 => []
  | k + 1 => UInt8.ofNat (X % 256) :: bytesX (X / 256) k
/-- To the next byte. -/
def evenM (σ : Sg) : Sg := ⟨σ.X / 2 ^ (σ.n % 8), σ.n - σ.n % 8, σ.out⟩
/-- A stored block's bytes. -/
def storedM (most : Nat) (σ : Sg) : Rs (List UInt8) :=
  thenR (bitsM 16 (evenM σ)) fun a σ1 => thenR (bitsM 16 σ1) fun b σ2 =>
    if a + b ≠ 65535 then .error 3
    else if σ2.n < 8 * a then .error 6
    else thenR (growM most a ⟨σ2.X / 2 ^ (8 * a), σ2.n - 8 * a, σ2.out⟩) fun _ σ3 => .ok (bytesX σ2.X a, σ3)

def ordL : List Nat := [16, 17, 18, 0, 8, 7, 9, 6, 10, 5, 11, 4, 12, 3, 13, 2, 14, 1, 15]
/-- The lengths of the first codes, told by three bits each. -/
def firstM : List Nat → (Nat → Int) → Sg → Rs (Nat → Int)
  | [], m, σ => .ok (m, σ)
  | s :: r, m, σ => thenR (bitsM 3 σ) fun v σ1 => firstM r (fun i => if i = s then (v : Int) else m i) σ1
/-- What one symbol of the first code adds to the lengths. -/
noncomputable def lenStep (K : Nat → Nat) (σ : Sg) (l : List Nat) : Rs (List Nat) :=
  thenR (symM K 19 σ) fun s σ1 =>
    if s = 16 then (if l = [] then .error 3 else thenR (bitsM 2 σ1) fun b σ2 => .ok (l ++ List.replicate (3 + b) (l.getLastD 0), σ2))
    else if s = 17 then thenR (bitsM 3 σ1) fun b σ2 => .ok (l ++ List.replicate (3 + b) 0, σ2)
    else if s = 18 then thenR (bitsM 7 σ1) fun b σ2 => .ok (l ++ List.replicate (11 + b) 0, σ2)
    else .ok (l ++ [s], σ1)
noncomputable def lenLoop (K : Nat → Nat) (need : Nat) : Nat → Sg → List Nat → Rs (List Nat)
  | 0, _, _ => .error 0
  | f + 1, σ, l => if l.length < need then thenR (lenStep K σ l) fun l' σ1 => lenLoop K need f σ1 l' else .ok (l, σ)
/-- The lengths of a dynamic block, and how many of them are those of sizes and bytes. -/
noncomputable def dynM (σ : Sg) : Rs (List Nat × Nat) :=
  thenR (bitsM 5 σ) fun a σ1 => thenR (bitsM 5 σ1) fun b σ2 => thenR (bitsM 4 σ2) fun c σ3 =>
    if 286 < a + 257 ∨ 30 < b + 1 then .error 3
    else thenR (firstM (ordL.take (c + 4)) (fun _ => 0) σ3) fun m σ4 => thenR (fitM m 19 σ4) fun _ σ5 =>
      thenR (lenLoop (lens m) (a + 257 + (b + 1)) (σ5.n + 1) σ5 []) fun l σ6 =>
        if a + 257 + (b + 1) < l.length ∨ l.getD 256 0 = 0 then .error 3 else .ok ((l, a + 257), σ6)
/-- A list of lengths as a function. -/
def lenF (l : List Nat) (i : Nat) : Int := (l.getD i 0 : Nat)

/-- A block. -/
structure Bk where
  kind : Nat
  bytes : List UInt8
  toks : List Tok
noncomputable def blockM (most : Nat) (σ : Sg) : Rs (Nat × Bk) :=
  thenR (bitsM 1 σ) fun last σ1 => thenR (bitsM 2 σ1) fun k σ2 =>
    if k = 0 then thenR (storedM most σ2) fun s σ3 => .ok ((last, ⟨0, s, []⟩), σ3)
    else if k = 1 then thenR (tokensM fixL 288 (fun _ => 5) 32 most σ2) fun S σ3 => .ok ((last, ⟨1, [], S⟩), σ3)
    else if k = 2 then thenR (dynM σ2) fun l σ3 => thenR (tokensM (lenF (l.1.take l.2)) l.2 (lenF (l.1.drop l.2)) (l.1.length - l.2) most σ3) fun S σ4 => .ok ((last, ⟨2, [], S⟩), σ4)
    else .error 3
noncomputable def blocksM (most : Nat) : Nat → Sg → List Bk → Rs (List Bk)
  | 0, _, _ => .error 0
  | f + 1, σ, out => thenR (blockM most σ) fun r σ1 => if r.1 = 0 then blocksM most f σ1 (out ++ [r.2]) else .ok (out ++ [r.2], σ1)
end Go.Proofs.Ytjnglahjngiofaa
namespace Go.Proofs.Ytjnglahjngiofaa
open Go.RowKit

theorem xor16_of (b : Nat) (hb : b < 65536) : 65535 ^^^ b = 65535 - b := by
  apply Nat.eq_of_testBit_eq
  intro i
  rw [Nat.testBit_xor, show (65535 : Nat) - b = 2 ^ 16 - (b + 1) by omega, Nat.testBit_two_pow_sub_succ (by omega), show (65535 : Nat) = 2 ^ 16 - 1 by decide, Nat.testBit_two_pow_sub_one]
  by_cases h : i < 16
  · simp [h]
  · have : b.testBit i = false := Nat.testBit_lt_two_pow (Nat.lt_of_lt_of_le hb (by rw [show (65536 : Nat) = 2 ^ 16 by decide]; exact Nat.pow_le_pow_right (by decide) (by omega)))
    simp [h, this]
theorem xor16 (a b : Nat) (_ha : a < 65536) (hb : b < 65536) : a ^^^ b = 65535 ↔ a + b = 65535 := by
  constructor
  · intro h
    have e : a = 65535 ^^^ b := by rw [← h, Nat.xor_assoc, Nat.xor_self, Nat.xor_zero]
    rw [xor16_of b hb] at e
    omega
  · intro h
    have e : a = 65535 - b := by omega
    rw [e, ← xor16_of b hb, Nat.xor_assoc, Nat.xor_self, Nat.xor_zero]
theorem i64_xor16 (a b : Nat) (ha : a < 65536) (hb : b < 65536) : bits .xor .i64 (a : Int) (b : Int) = ((a ^^^ b : Nat) : Int) := by
  have h := Nat.xor_lt_two_pow (n := 16) (x := a) (y := b) (by simpa using ha) (by simpa using hb)
  have h2 : (2 : Nat) ^ 16 = 65536 := by decide
  show IntKind.i64.wrap ((BitVec.ofInt 64 (a : Int) ^^^ BitVec.ofInt 64 (b : Int)).toNat : Int) = _
  rw [BitVec.toNat_xor, ofInt_u64 a (by omega), ofInt_u64 b (by omega), IntKind.wrap_i64]
  omega
end Go.Proofs.Ytjnglahjngiofaa
namespace Go.Proofs.Ytjnglahjngiofaa
open Go.RowKit
set_option maxRecDepth 100000

/-- The bytes that a stored block takes at p. -/
def stoF (s : ByteArray) (p : Nat) : Nat := min ((p + 7) / 8) s.size
def stoT (s : ByteArray) (p k : Nat) : Nat := min (stoF s p + k) s.size

set_option maxHeartbeats 8000000 in
theorem stored_raw (R P : Nat) (s : ByteArray) (p z most e p0 v1 e1 v2 e2 e3 : Nat) (hs : s.size ≤ 100000) (hp : p ≤ 900000) (hz : z ≤ 1000000) (hm : most ≤ 1000000)
    (hp0 : (p + 7) / 8 * 8 = p0) (hv1 : bitsAt s p0 16 = v1) (he1 : bitsE s p0 16 e = e1) (hv2 : bitsAt s (p0 + 16) 16 = v2) (he2 : bitsE s (p0 + 16) 16 e1 = e2) (he3 : (if v1 ^^^ v2 = 65535 then e2 else firstE e2 3) = e3)
    (w : World) (hR : RdAt w R P s p z most e) :
    Calls Try.prog 48 #[.pointer (some ⟨R, 0, none⟩)] w fun r w' => Rch R P w w' ∧
      ((e3 ≠ 0 ∧ r = .returned (.string ⟨#[]⟩) ∧ RdAt w' R P s (p0 + 16 + 16) z most e3) ∨
       (e3 = 0 ∧ r = .returned (.string (s.extract (stoF s (p0 + 16 + 16)) (stoT s (p0 + 16 + 16) v1))) ∧ RdAt w' R P s ((p0 + 16 + 16 + 7) / 8 * 8 + 8 * v1) (z + v1) most (growE most (z + v1) (if stoT s (p0 + 16 + 16) v1 - stoF s (p0 + 16 + 16) < v1 then 6 else 0)))) := by
  have hp0l : p0 ≤ 900007 := by omega
  have hv1l : v1 < 65536 := by rw [← hv1]; exact bitsAt_lt s p0 16 (by decide)
  have hv2l : v2 < 65536 := by rw [← hv2]; exact bitsAt_lt s (p0 + 16) 16 (by decide)
  have hx := i64_xor16 v1 v2 hv1l hv2l
  obtain ⟨x, Hx⟩ : ∃ x, Hid (v1 ^^^ v2 = x) := ⟨_, Lib.hid (Eq.refl _)⟩
  rw [Hx.out] at hx he3
  have c0 := hR.1.cell 0
  simp at c0
  have CE := srcEven_any P s p (by omega) w hR.2.1
  rw [hp0] at CE
  have HCE := Lib.hid CE
  have CB1 := fun W hR => bits_any R P s p0 z most e 16 (by decide) hs (by omega) W hR
  rw [hv1, he1] at CB1
  have CB2 := fun W hR => bits_any R P s (p0 + 16) z most e1 16 (by decide) hs (by omega) W hR
  rw [hv2, he2] at CB2
  have H1 := Lib.hid CB1
  have H2 := Lib.hid CB2
  have HR := Lib.hid hR
  have He3 := Lib.hid he3
  obtain ⟨f, Hf⟩ : ∃ f, Hid (stoF s (p0 + 16 + 16) = f) := ⟨_, Lib.hid (Eq.refl _)⟩
  obtain ⟨t, Ht⟩ : ∃ t, Hid (stoT s (p0 + 16 + 16) v1 = t) := ⟨_, Lib.hid (Eq.refl _)⟩
  obtain ⟨p3, Hp3⟩ : ∃ p3, Hid (p0 + 16 + 16 = p3) := ⟨_, Lib.hid (Eq.refl _)⟩
  have hp3 : p3 ≤ 900039 := by have := Hp3.out; omega
  have HT : Hid (∀ W, RdAt W R P s p3 z most 0 → Calls Try.prog 71 #[.pointer (some ⟨P, 0, none⟩), .int .i64 (v1 : Int)] W fun r w' => r = .returned (.string (s.extract f t)) ∧ RdAt w' R P s ((p3 + 7) / 8 * 8 + 8 * v1) z most 0 ∧ Rch R P W w') := by
    intro W hW
    have C := srcText_any P s p3 v1 (v1 : Int) (.inr (.inl ⟨rfl, by omega⟩)) (by omega) (by omega) W hW.2.1
    have ef : min ((p3 + 7) / 8) s.size = f := by rw [← Hf.out, Hp3.out]; rfl
    have et : min (f + v1) s.size = t := by rw [← Ht.out, Hp3.out]; unfold stoT; rw [show stoF s p3 = f by rw [← Hf.out, Hp3.out]]
    rw [ef, et] at C
    exact C.mono fun r w' ⟨a1, a2, a3, _⟩ => ⟨a1, hW.read a2 a3, Rch.row a3⟩
  have htf : t - f ≤ v1 ∧ (s.extract f t).size = t - f := by
    have ef : min ((p3 + 7) / 8) s.size = f := by rw [← Hf.out, Hp3.out]; rfl
    have et : min (f + v1) s.size = t := by rw [← Ht.out, Hp3.out]; unfold stoT; rw [show stoF s p3 = f by rw [← Hf.out, Hp3.out]]
    rw [ByteArray.size_extract]
    omega
  obtain ⟨tx, Htx⟩ : ∃ x, Hid (s.extract f t = x) := ⟨_, Lib.hid (Eq.refl _)⟩
  obtain ⟨nf, Hnf⟩ : ∃ x, Hid (t - f = x) := ⟨_, Lib.hid (Eq.refl _)⟩
  rw [Htx.out] at htf HT
  rw [Hnf.out] at htf
  obtain ⟨hnf, hsz⟩ := htf
  obtain ⟨E5, HE5⟩ : ∃ x, Hid (growE most (z + v1) (if nf < v1 then 6 else 0) = x) := ⟨_, Lib.hid (Eq.refl _)⟩
  obtain ⟨p5, Hp5⟩ : ∃ x, Hid ((p3 + 7) / 8 * 8 + 8 * v1 = x) := ⟨_, Lib.hid (Eq.refl _)⟩
  rw [Hp5.out] at HT
  rw [Hf.out, Ht.out, Hp3.out, Htx.out, Hnf.out, HE5.out, Hp5.out]
  rw [Hp3.out] at H2
  clear CE CB1 CB2 hR he3 hv1 hv2 he1 he2 hp0
  go_enter Try.func48, Try.ntmps48
  go_wp2_with fail
  refine HCE.out.mono ?_
  rintro r w1 ⟨rfl, hS1, hg1, _⟩
  have HR1 := Lib.hid (HR.out.read hS1 hg1)
  have HC1 : Hid (Rch R P w w1) := Rch.row hg1
  clear hS1 hg1 c0
  go_wp2_with fail
  refine (H1.out _ HR1.out).mono ?_
  rintro r w2 ⟨rfl, hR2, hC2⟩
  have HR2 := Lib.hid hR2
  have HC2 := Lib.hid (HC1.out.trans hC2)
  clear hR2 hC2 HR1 HC1
  go_wp2_with fail
  refine (H2.out _ HR2.out).mono ?_
  rintro r w3 ⟨rfl, hR3, hC3⟩
  have HR3 := Lib.hid hR3
  have HC3 := Lib.hid (HC2.out.trans hC3)
  clear hR3 hC3 HR2 HC2
  by_cases hX : x = 65535
  · have dx : ((x : Int) != 65535) = false := by simp; omega
    have e3e : e2 = e3 := by have := He3.out; rwa [if_pos hX] at this
    subst e3e
    have c3 := HR3.out.1.cell 3
    have c0 := HR3.out.1.cell 0
    simp at c3 c0
    by_cases h0 : e2 = 0
    · subst h0
      have dt : decide ((nf : Int) < (v1 : Int)) = decide (nf < v1) := by
        by_cases h : nf < v1
        · rw [decide_eq_true h, decide_eq_true (by omega)]
        · rw [decide_eq_false h, decide_eq_false (by omega)]
      go_wp2_with fail
      refine (HT.out _ HR3.out).mono ?_
      rintro r w4 ⟨rfl, hR4, hC4⟩
      have HR4 := Lib.hid hR4
      have HC4 := Lib.hid (HC3.out.trans hC4)
      clear hR4 hC4 HR3 HC3 c3 c0
      by_cases hl : nf < v1
      · have dl : decide ((nf : Int) < (v1 : Int)) = true := by rw [decide_eq_true_eq]; omega
        have dl2 : decide (nf < v1) = true := by rw [decide_eq_true_eq]; omega
        have E5e : growE most (z + v1) 6 = E5 := by have := HE5.out; rwa [if_pos hl] at this
        clear dt
        go_wp2_with fail
        refine (fail_any R P s p5 z most 0 6 w4 HR4.out).mono ?_
        rintro r w5 ⟨rfl, hR5, hC5⟩
        have HR5 : Hid (RdAt w5 R P s p5 z most 6) := hR5
        have HC5 := Lib.hid (HC4.out.trans hC5)
        clear hR5 hC5 HR4 HC4
        go_wp2_with fail
        refine (grow_any R P s p5 z most 6 v1 (by omega) hm (by omega) w5 HR5.out).mono ?_
        rintro r w6 ⟨rfl, hR6, hC6⟩
        rw [E5e] at hR6
        have HR6 := Lib.hid hR6
        have HC6 := Lib.hid (HC5.out.trans hC6)
        clear hR6 hC6 HR5 HC5
        go_wp2_with fail
        go_ret
        first | exact ⟨HC6.out, .inr ⟨rfl, rfl, HR6.out⟩⟩ | exact ⟨HC6.out, rfl, HR6.out⟩
      · have dl : decide ((nf : Int) < (v1 : Int)) = false := by rw [decide_eq_false_iff_not]; omega
        have dl2 : decide (nf < v1) = false := by rw [decide_eq_false_iff_not]; omega
        have E5e : growE most (z + v1) 0 = E5 := by have := HE5.out; rwa [if_neg hl] at this
        clear dt
        go_wp2_with fail
        refine (grow_any R P s p5 z most 0 v1 (by omega) hm (by omega) w4 HR4.out).mono ?_
        rintro r w6 ⟨rfl, hR6, hC6⟩
        rw [E5e] at hR6
        have HR6 := Lib.hid hR6
        have HC6 := Lib.hid (HC4.out.trans hC6)
        clear hR6 hC6 HR4 HC4
        go_wp2_with fail
        go_ret
        first | exact ⟨HC6.out, .inr ⟨rfl, rfl, HR6.out⟩⟩ | exact ⟨HC6.out, rfl, HR6.out⟩
    · have d0 : ((e2 : Int) != 0) = true := by simp; omega
      go_wp2_with fail
      go_ret
      exact ⟨HC3.out, .inl ⟨h0, rfl, HR3.out⟩⟩
  · have dx : ((x : Int) != 65535) = true := by simp; omega
    have e3e : firstE e2 3 = e3 := by have := He3.out; rwa [if_neg hX] at this
    have h0 : e3 ≠ 0 := by rw [← e3e]; unfold firstE; split <;> omega
    have d0 : ((e3 : Int) != 0) = true := by simp; omega
    go_wp2_with fail
    refine (fail_any R P s p3 z most e2 3 w3 HR3.out).mono ?_
    rintro r w4 ⟨rfl, hR4, hC4⟩
    rw [e3e] at hR4
    have c3 := hR4.1.cell 3
    simp at c3
    have HR4 := Lib.hid hR4
    have HC4 := Lib.hid (HC3.out.trans hC4)
    clear hR4 hC4 HR3 HC3
    go_wp2_with fail
    go_ret
    exact ⟨HC4.out, .inl ⟨h0, rfl, HR4.out⟩⟩
end Go.Proofs.Ytjnglahjngiofaa
namespace Go.Proofs.Ytjnglahjngiofaa
open Go.RowKit
set_option maxRecDepth 100000

/-- A reader's place as the plain one's. -/
def sg (s : ByteArray) (p z : Nat) : Sg := ⟨num s / 2 ^ p, 8 * s.size - p, z⟩
theorem bits_sg (s : ByteArray) (p z k : Nat) (hp : p + k ≤ 8 * s.size) : bitsM k (sg s p z) = .ok (bitsAt s p k, sg s (p + k) z) := by
  unfold bitsM sg
  have h : ¬ 8 * s.size - p < k := by omega
  rw [if_neg h]
  unfold bitsAt
  have e1 : num s / 2 ^ p / 2 ^ k = num s / 2 ^ (p + k) := by rw [Nat.div_div_eq_div_mul, ← Nat.pow_add]
  have e2 : 8 * s.size - p - k = 8 * s.size - (p + k) := by omega
  rw [e1, e2]
theorem bits_sg_short (s : ByteArray) (p z k : Nat) (hp : p ≤ 8 * s.size) (hk : 8 * s.size < p + k) : bitsM k (sg s p z) = .error 6 := by
  unfold bitsM sg
  have h : 8 * s.size - p < k := by omega
  rw [if_pos h]
theorem even_sg (s : ByteArray) (p z : Nat) (hp : p ≤ 8 * s.size) : evenM (sg s p z) = sg s ((p + 7) / 8 * 8) z ∧ (p + 7) / 8 * 8 ≤ 8 * s.size := by
  refine ⟨?_, by omega⟩
  unfold evenM sg
  have e0 : (8 * s.size - p) % 8 = (p + 7) / 8 * 8 - p := by omega
  have e1 : num s / 2 ^ p / 2 ^ ((p + 7) / 8 * 8 - p) = num s / 2 ^ ((p + 7) / 8 * 8) := by
    rw [Nat.div_div_eq_div_mul, ← Nat.pow_add, show p + ((p + 7) / 8 * 8 - p) = (p + 7) / 8 * 8 by omega]
  have e2 : 8 * s.size - p - ((p + 7) / 8 * 8 - p) = 8 * s.size - (p + 7) / 8 * 8 := by omega
  simp only [e0]
  rw [e1, e2]
theorem bytesX_at (s : ByteArray) (k : Nat) : ∀ q, q + k ≤ s.size → bytesX (num s / 2 ^ (8 * q)) k = ((s.data.toList).drop q).take k := by
  induction k with
  | zero => intro q _; rfl
  | succ k ih =>
    intro q hq
    have hlt : q < s.size := by omega
    have h1 := num_byte s q hlt
    have e1 : num s / 2 ^ (8 * q) % 256 = (s[q]).toNat := by
      rw [Nat.pow_mul, show (2 : Nat) ^ 8 = 256 by decide]
      exact h1
    have e2 : num s / 2 ^ (8 * q) / 256 = num s / 2 ^ (8 * (q + 1)) := by
      rw [Nat.div_div_eq_div_mul, show (256 : Nat) = 2 ^ 8 by decide, ← Nat.pow_add]
      congr 2
    show UInt8.ofNat (num s / 2 ^ (8 * q) % 256) :: bytesX (num s / 2 ^ (8 * q) / 256) k = _
    have hd := List.drop_eq_getElem_cons (l := s.data.toList) (i := q) (by simpa using hlt)
    rw [e1, e2, ih (q + 1) (by omega), hd, List.take_succ_cons]
    congr 1
    simp
    rfl
theorem extract_list (s : ByteArray) (a b : Nat) : s.extract a b = ⟨(((s.data.toList).drop a).take (b - a)).toArray⟩ := by
  apply ByteArray.ext
  rw [ByteArray.data_extract]
  apply Array.ext'
  rw [Array.toList_extract, List.extract_eq_take_drop]

theorem stored_err (R P : Nat) (s : ByteArray) (p z most e : Nat) (he : e ≠ 0) (hs : s.size ≤ 100000) (hp : p ≤ 900000) (hz : z ≤ 1000000) (hm : most ≤ 1000000) (w : World) (hR : RdAt w R P s p z most e) :
    Calls Try.prog 48 #[.pointer (some ⟨R, 0, none⟩)] w fun r w' => Rch R P w w' ∧ (∃ t, r = .returned (.string t)) ∧ ∃ p', RdAt w' R P s p' z most e := by
  have h1 : ∀ a k, bitsE s a k e = e := fun a k => by unfold bitsE firstE; split <;> first | rfl | rw [if_neg he]
  refine (stored_raw R P s p z most e _ _ _ _ _ _ hs hp hz hm rfl rfl rfl rfl rfl rfl w hR).mono ?_
  rintro r w' ⟨hc, hh⟩
  simp only [h1] at hh
  have h2 : ∀ a : Nat, (if a = 65535 then e else firstE e 3) = e := fun a => by split <;> simp [firstE, he]
  simp only [h2] at hh
  rcases hh with ⟨_, a2, a3⟩ | ⟨a1, _⟩
  · exact ⟨hc, ⟨_, a2⟩, _, a3⟩
  · exact absurd a1 he

/-- What a call left: an error, or what the plain one says. -/
def RdRes (w' : World) (R P : Nat) (s : ByteArray) (most : Nat) {α : Type} (res : Rs α) (val : α → Prop) : Prop :=
  (∃ e p z, res = .error e ∧ e ≠ 0 ∧ RdAt w' R P s p z most e) ∨ (∃ a p z, res = .ok (a, sg s p z) ∧ p ≤ 8 * s.size ∧ z ≤ most ∧ RdAt w' R P s p z most 0 ∧ val a)

theorem stored_m (R P : Nat) (s : ByteArray) (p z most : Nat) (hs : s.size ≤ 100000) (hp : p ≤ 8 * s.size) (hz : z ≤ most) (hm : most ≤ 1000000) (w : World) (hR : RdAt w R P s p z most 0) :
    Calls Try.prog 48 #[.pointer (some ⟨R, 0, none⟩)] w fun r w' => Rch R P w w' ∧ (∃ t, r = .returned (.string t)) ∧ RdRes w' R P s most (storedM most (sg s p z)) (fun l => r = .returned (.string ⟨l.toArray⟩)) := by
  refine (stored_raw R P s p z most 0 _ _ _ _ _ _ hs (by omega) (by omega) hm rfl rfl rfl rfl rfl rfl w hR).mono ?_
  rintro r w' ⟨hc, hh⟩
  obtain ⟨he, hp0⟩ := even_sg s p z hp
  obtain ⟨p0, Hp0⟩ : ∃ p0, (p + 7) / 8 * 8 = p0 := ⟨_, rfl⟩
  have hp8 : p0 % 8 = 0 := by omega
  simp only [Hp0] at hh he hp0
  unfold storedM
  rw [he]
  by_cases h1 : 8 * s.size < p0 + 16
  · rw [bits_sg_short s p0 z 16 hp0 h1]
    have e1 : bitsE s p0 16 0 = 6 := by unfold bitsE; rw [if_pos h1]; rfl
    have e2 : bitsE s (p0 + 16) 16 6 = 6 := by unfold bitsE firstE; split <;> rfl
    simp only [e1, e2] at hh
    have h2 : ∀ a : Nat, (if a = 65535 then 6 else firstE 6 3) = 6 := fun a => by split <;> rfl
    simp only [h2] at hh
    rcases hh with ⟨_, a2, a3⟩ | ⟨a1, _⟩
    · exact ⟨hc, ⟨_, a2⟩, .inl ⟨6, _, _, rfl, by decide, a3⟩⟩
    · exact absurd a1 (by decide)
  · rw [bits_sg s p0 z 16 (by omega), thenR_ok]
    have e1 : bitsE s p0 16 0 = 0 := by unfold bitsE; rw [if_neg h1]
    simp only [e1] at hh
    by_cases h2 : 8 * s.size < p0 + 16 + 16
    · rw [bits_sg_short s (p0 + 16) z 16 (by omega) h2]
      have e2 : bitsE s (p0 + 16) 16 0 = 6 := by unfold bitsE; rw [if_pos h2]; rfl
      simp only [e2] at hh
      have h3 : ∀ a : Nat, (if a = 65535 then 6 else firstE 6 3) = 6 := fun a => by split <;> rfl
      simp only [h3] at hh
      rcases hh with ⟨_, a2, a3⟩ | ⟨a1, _⟩
      · exact ⟨hc, ⟨_, a2⟩, .inl ⟨6, _, _, rfl, by decide, a3⟩⟩
      · exact absurd a1 (by decide)
    · rw [bits_sg s (p0 + 16) z 16 (by omega), thenR_ok]
      have e2 : bitsE s (p0 + 16) 16 0 = 0 := by unfold bitsE; rw [if_neg h2]
      simp only [e2] at hh
      have hv1l := bitsAt_lt s p0 16 (by decide)
      have hv2l := bitsAt_lt s (p0 + 16) 16 (by decide)
      obtain ⟨v1, Hv1⟩ : ∃ v, bitsAt s p0 16 = v := ⟨_, rfl⟩
      obtain ⟨v2, Hv2⟩ : ∃ v, bitsAt s (p0 + 16) 16 = v := ⟨_, rfl⟩
      simp only [Hv1, Hv2] at hh hv1l hv2l ⊢
      have hx := xor16 v1 v2 hv1l hv2l
      by_cases h3 : v1 ^^^ v2 = 65535
      · have h3b : ¬ (v1 + v2 ≠ 65535) := fun h => h (hx.1 h3)
        rw [if_neg h3b]
        rw [if_pos h3] at hh
        rcases hh with ⟨a1, _⟩ | ⟨_, a2, a3⟩
        · exact absurd rfl a1
        · refine ⟨hc, ⟨_, a2⟩, ?_⟩
          have ep : (p0 + 16 + 16 + 7) / 8 * 8 = p0 + 16 + 16 := by omega
          obtain ⟨q, hq⟩ : ∃ q, p0 + 16 + 16 = 8 * q := ⟨(p0 + 16 + 16) / 8, by omega⟩
          have hqs : q ≤ s.size := by omega
          rw [hq] at a2 a3 ep h2 ⊢
          rw [ep] at a3
          have ef : stoF s (8 * q) = q := by unfold stoF; omega
          have et : stoT s (8 * q) v1 = min (q + v1) s.size := by unfold stoT; rw [ef]
          rw [ef, et] at a2 a3
          by_cases h4 : s.size < q + v1
          · have h5 : (sg s (8 * q) z).n < 8 * v1 := by show 8 * s.size - 8 * q < 8 * v1; omega
            rw [if_pos h5]
            have e3 : min (q + v1) s.size - q < v1 := by omega
            rw [if_pos e3] at a3
            have e4 : growE most (z + v1) 6 = 6 := by unfold growE firstE; split <;> rfl
            rw [e4] at a3
            exact .inl ⟨6, _, _, rfl, by decide, a3⟩
          · have h5 : ¬ (sg s (8 * q) z).n < 8 * v1 := by show ¬ 8 * s.size - 8 * q < 8 * v1; omega
            rw [if_neg h5]
            have e3 : ¬ min (q + v1) s.size - q < v1 := by omega
            rw [if_neg e3] at a3
            unfold growM
            have e5 : (sg s (8 * q) z).out = z := rfl
            simp only [e5]
            by_cases h6 : most < z + v1
            · rw [if_pos h6, thenR_err]
              have e4 : growE most (z + v1) 0 = 2 := by unfold growE; rw [if_pos h6]; rfl
              rw [e4] at a3
              exact .inl ⟨2, _, _, rfl, by decide, a3⟩
            · rw [if_neg h6, thenR_ok]
              have e4 : growE most (z + v1) 0 = 0 := by unfold growE; rw [if_neg h6]
              rw [e4] at a3
              refine .inr ⟨bytesX (sg s (8 * q) z).X v1, 8 * q + 8 * v1, z + v1, ?_, by omega, by omega, a3, ?_⟩
              · have e7 : (sg s (8 * q) z).X = num s / 2 ^ (8 * q) := rfl
                have e8 : (sg s (8 * q) z).n = 8 * s.size - 8 * q := rfl
                unfold sg
                congr 2
                · simp only [Sg.mk.injEq]
                  refine ⟨?_, by omega, trivial⟩
                  rw [Nat.div_div_eq_div_mul, ← Nat.pow_add]
              · have e7 : (sg s (8 * q) z).X = num s / 2 ^ (8 * q) := rfl
                rw [a2, extract_list, e7, bytesX_at s v1 q (by omega), show min (q + v1) s.size - q = v1 by omega]
      · have h3b : v1 + v2 ≠ 65535 := fun h => h3 (hx.2 h)
        rw [if_pos h3b]
        rw [if_neg h3] at hh
        rcases hh with ⟨_, a2, a3⟩ | ⟨a1, _⟩
        · exact ⟨hc, ⟨_, a2⟩, .inl ⟨3, _, _, rfl, by decide, a3⟩⟩
        · exact absurd a1 (by decide)
end Go.Proofs.Ytjnglahjngiofaa
namespace Go.Proofs.Ytjnglahjngiofaa
open Go.RowKit
set_option maxRecDepth 100000

theorem toL_append (s t : ByteArray) : (s ++ t).data.toList = s.data.toList ++ t.data.toList := by rw [ByteArray.data_append, Array.toList_append]
theorem extract_one (s : ByteArray) (q : Nat) (hq : q < s.size) : (s.extract q (q + 1)).data.toList = [s.data.toList.getD q 0] := by
  rw [ByteArray.data_extract, Array.toList_extract, List.extract_eq_take_drop, show q + 1 - q = 1 by omega]
  have hl : q < s.data.toList.length := by simpa using hq
  rw [List.drop_eq_getElem_cons hl, List.getD_eq_getElem?_getD, List.getElem?_eq_getElem hl]
  simp

set_option maxHeartbeats 8000000 in
theorem rexpand_any (S : List Tok) (hS : S.length ≤ 1000000) (a : Option Addr) (cap : Nat) (most : Int) (hm : -9223372036854775808 ≤ most ∧ most ≤ 1000000) (w : World) (hr : TkRow w a S) :
    Calls Try.prog 21 #[.slice a S.length cap, .int .i64 most] w fun e w' => e = .returned (expV (texp most [] S)) ∧ Below w.heap.size w w' := by
  have Hr := Lib.hid hr
  obtain ⟨R, HR⟩ : ∃ R, Hid (texp most [] S = R) := ⟨_, Lib.hid (Eq.refl _)⟩
  obtain ⟨N, HN⟩ : ∃ N, Hid (S.length = N) := ⟨_, Lib.hid (Eq.refl _)⟩
  rw [HR.out]
  rw [HN.out] at hS ⊢
  clear hr
  have HB0 := Lib.hid (Below.refl w.heap.size w)
  go_enter Try.func21, Try.ntmps21
  go_wp2_with fail
  go_loopw [6, 13] (fun vo i wr => ∃ (k : Nat) (T : ByteArray), k ≤ N ∧ i = .int .i64 (k : Int) ∧ vo = .string T ∧ (T.size = 0 ∨ (T.size : Int) ≤ most) ∧ Hid (texp most T.data.toList (S.drop k) = R) ∧ Hid (Below w.heap.size w wr)) (fun _ i _ => N - (intOf i).toNat)
  case atStart => exact ⟨0, ⟨#[]⟩, by omega, rfl, rfl, .inl rfl, HR, HB0⟩
  case round =>
    clear HB0 HR
    obtain ⟨k, T, hk, rfl, rfl, hol, HR, HB⟩ := hrel
    by_cases hlt : k < N
    · have hkl : k < S.length := by rw [HN.out]; exact hlt
      obtain ⟨b, off, rfl, hbl, c0, c1, c2⟩ := (Hr.out.below HB.out (Nat.le_refl _)).get k hkl
      have Hd := Lib.hid (drop_tk hkl)
      obtain ⟨t, Ht⟩ : ∃ t, Hid (tk S k = t) := ⟨_, Lib.hid (Eq.refl _)⟩
      rw [Ht.out] at c0 c1 c2 Hd
      rw [Hd.out] at HR
      obtain ⟨tb, tl, td⟩ := t
      simp only at c0 c1 c2
      have htb : tb.toNat < 256 := UInt8.toNat_lt tb
      have hTl : T.data.toList.length = T.size := by simp
      have HE : ∀ e, terr most T.size ⟨tb, tl, td⟩ = e → e ≠ 0 → R = ([], e) := fun e h1 h2 => by
        rw [← HR.out]; exact texp_stop (by rw [hTl]; exact h1) h2
      have HG : terr most T.size ⟨tb, tl, td⟩ = 0 → texp most (tout T.data.toList ⟨tb, tl, td⟩) (S.drop (k + 1)) = R := fun h => by
        rw [← HR.out]; exact (texp_step (by rw [hTl]; exact h)).symm
      have hE := Lib.hid HE
      have hG := Lib.hid HG
      clear HE HG
      go_upto_region 5 with (fail)
      have hB4 := Blk.new wr 36 #[.int .u8 (tb.toNat : Int), .int .i64 tl, .int .i64 td]
      have HB4 := Lib.hid (HB.out.alloc HB.out.size (.cells #[.int .u8 (tb.toNat : Int), .int .i64 tl, .int .i64 td] 36))
      obtain ⟨g4, Hg4⟩ : ∃ g, Hid (wr.heap.size = g) := ⟨_, Lib.hid (Eq.refl _)⟩
      rw [Hg4.out] at hB4 ⊢
      generalize wr.alloc (.cells #[.int .u8 (tb.toNat : Int), .int .i64 tl, .int .i64 td] 36) = w4 at *
      clear c0 c1 c2 HB
      have g0 := hB4.cell 0
      have g1 := hB4.cell 1
      have g2 := hB4.cell 2
      have hgl := hB4.lt
      simp at g0 g1 g2
      have HBb : Hid (Blk w4 g4 36 #[.int .u8 (tb.toNat : Int), .int .i64 tl, .int .i64 td]) := hB4
      clear hB4 hTl
      by_cases hz : tl = 0 ∧ td = 0
      · obtain ⟨rfl, rfl⟩ := hz
        by_cases hmo : most ≤ (T.size : Int)
        · have dm : decide (most ≤ (T.size : Int)) = true := by simpa using hmo
          have HRe : Hid (R = ([], 2)) := hE.out 2 (by unfold terr; simp [hmo]) (by decide)
          go_wp2_with fail
          go_ret2
          exact ⟨by rw [HRe.out]; rfl, HB4.out⟩
        · have dm : decide (most ≤ (T.size : Int)) = false := by simpa using hmo
          have HRn := Lib.hid (hG.out (by unfold terr; simp [hmo]))
          have hcv := run_string_one w4 (tb.toNat : Int)
          have HB5 := Lib.hid (HB4.out.alloc HB4.out.size (.cells #[.int .u8 (tb.toNat : Int)] 5))
          have hov : ¬ 9223372036854775807 < T.size + 1 := by omega
          go_wp2_with fail
          go_roundw
          case rel =>
            refine ⟨k + 1, _, by omega, by go_num, rfl, .inr ?_, ?_, HB5⟩
            · rw [ByteArray.size_append]; show ((T.size + 1 : Nat) : Int) ≤ most; omega
            · show texp _ _ _ = _
              rw [toL_append]
              exact HRn.out
          case measure => simp [intOf]; omega
      · by_cases hbad : tb ≠ 0 ∨ tl < 3 ∨ 258 < tl ∨ td < 1 ∨ 32768 < td ∨ (T.size : Int) < td
        · have HRe : Hid (R = ([], 4)) := hE.out 4 (by
            unfold terr
            by_cases hl0 : tl = 0
            · rw [if_pos hl0, if_pos (fun e => hz ⟨hl0, e⟩)]
            · rw [if_neg hl0, if_pos hbad]) (by decide)
          have Hbad := Lib.hid hbad
          have Hz := Lib.hid hz
          clear hbad hE hG
          by_cases hl0 : tl = 0
          · subst hl0
            have htd : (td == 0) = false := by simp; exact fun e => Hz.out ⟨rfl, e⟩
            clear hz
            by_cases h1 : tb.toNat = 0
            · have d1 : ((tb.toNat : Int) != 0) = false := by simp [h1]
              clear h1
              go_wp2_with fail
              go_ret2
              exact ⟨by rw [HRe.out]; rfl, HB4.out⟩
            · have d1 : ((tb.toNat : Int) != 0) = true := by rw [bne_iff_ne]; omega
              clear h1
              go_wp2_with fail
              go_ret2
              exact ⟨by rw [HRe.out]; rfl, HB4.out⟩
          have dl0 : (tl == 0) = false := by simpa using hl0
          clear hz
          by_cases h1 : tb.toNat = 0
          · have d1 : ((tb.toNat : Int) != 0) = false := by simp [h1]
            have htb0 : tb = 0 := by apply UInt8.toNat_inj.1; simpa using h1
            by_cases h2 : tl < 3
            · have d2 : decide (tl < 3) = true := by simpa using h2
              clear h1 htb0
              go_wp2_with fail
              go_ret2
              exact ⟨by rw [HRe.out]; rfl, HB4.out⟩
            have d2 : decide (tl < 3) = false := by simpa using h2
            by_cases h3 : 258 < tl
            · have d3 : decide (258 < tl) = true := by simpa using h3
              clear h1 htb0
              go_wp2_with fail
              go_ret2
              exact ⟨by rw [HRe.out]; rfl, HB4.out⟩
            have d3 : decide (258 < tl) = false := by simpa using h3
            by_cases h4 : td < 1
            · have d4 : decide (td < 1) = true := by simpa using h4
              clear h1 htb0
              go_wp2_with fail
              go_ret2
              exact ⟨by rw [HRe.out]; rfl, HB4.out⟩
            have d4 : decide (td < 1) = false := by simpa using h4
            by_cases h5 : 32768 < td
            · have d5 : decide (32768 < td) = true := by simpa using h5
              clear h1 htb0
              go_wp2_with fail
              go_ret2
              exact ⟨by rw [HRe.out]; rfl, HB4.out⟩
            have d5 : decide (32768 < td) = false := by simpa using h5
            have h6 : (T.size : Int) < td := by
              rcases Hbad.out with h | h | h | h | h | h
              · exact absurd htb0 h
              · omega
              · omega
              · omega
              · omega
              · exact h
            have d6 : decide ((T.size : Int) < td) = true := by simpa using h6
            clear h1 htb0
            go_wp2_with fail
            go_ret2
            exact ⟨by rw [HRe.out]; rfl, HB4.out⟩
          · have d1 : ((tb.toNat : Int) != 0) = true := by rw [bne_iff_ne]; omega
            clear h1
            go_wp2_with fail
            go_ret2
            exact ⟨by rw [HRe.out]; rfl, HB4.out⟩
        · have hgd : tb = 0 ∧ 3 ≤ tl ∧ tl ≤ 258 ∧ 1 ≤ td ∧ td ≤ 32768 ∧ td ≤ (T.size : Int) := by
            refine ⟨?_, by omega, by omega, by omega, by omega, by omega⟩
            by_cases e : tb = 0
            · exact e
            · exact absurd (.inl e) hbad
          obtain ⟨rfl, h2, h3, h4, h5, h6⟩ := hgd
          have hl0 : tl ≠ 0 := by omega
          have dl0 : (tl == 0) = false := by simpa using hl0
          have d1 : (((0 : UInt8).toNat : Int) != 0) = false := rfl
          have d2 : decide (tl < 3) = false := by simp; omega
          have d3 : decide (258 < tl) = false := by simp; omega
          have d4 : decide (td < 1) = false := by simp; omega
          have d5 : decide (32768 < td) = false := by simp; omega
          have d6 : decide ((T.size : Int) < td) = false := by simp; omega
          have hol2 : (T.size : Int) ≤ most := by rcases hol with h | h <;> omega
          have Hbad := Lib.hid hbad
          clear hbad hz
          by_cases h7 : most < (T.size : Int) + tl
          · have d7 : decide (most < (T.size : Int) + tl) = true := by simpa using h7
            have HRe : Hid (R = ([], 2)) := hE.out 2 (by unfold terr; rw [if_neg hl0, if_neg Hbad.out, if_pos (show most < (T.size : Int) + tl by omega)]) (by decide)
            clear hE hG hl0
            go_wp2_with fail
            go_ret2
            exact ⟨by rw [HRe.out]; rfl, HB4.out⟩
          · have d7 : decide (most < (T.size : Int) + tl) = false := by simpa using h7
            have HRn := hG.out (by unfold terr; rw [if_neg hl0, if_neg Hbad.out, if_neg (show ¬ most < (T.size : Int) + tl by omega)])
            obtain ⟨L, rfl⟩ : ∃ L : Nat, tl = (L : Int) := ⟨tl.toNat, by omega⟩
            obtain ⟨D, rfl⟩ : ∃ D : Nat, td = (D : Int) := ⟨td.toNat, by omega⟩
            have hto : tout T.data.toList ⟨0, (L : Int), (D : Int)⟩ = rep D T.data.toList L := by unfold tout; rw [if_neg hl0]; rfl
            rw [hto] at HRn
            have HRN := Lib.hid HRn
            clear hE hG HRn hto hl0 dl0
            go_wp2_with fail
            go_loop [6, 9] (fun vo i => ∃ (j : Nat) (U : ByteArray), j ≤ L ∧ i = .int .i64 (j : Int) ∧ vo = .string U ∧ U.size = T.size + j ∧ Hid (U.data.toList = rep D T.data.toList j)) (fun _ i => L - (intOf i).toNat)
            case atStart => exact ⟨0, T, by omega, rfl, rfl, rfl, rfl⟩
            case round =>
              obtain ⟨j, U, hj, rfl, rfl, hU, HU⟩ := hrel
              by_cases hltj : j < L
              · obtain ⟨q, hq⟩ : ∃ q, T.size + j = D + q := ⟨T.size + j - D, by omega⟩
                have hUq : U.size = D + q := by omega
                have hUi : (U.size : Int) - (D : Int) = (q : Int) := by omega
                have hq1 : (q : Int) + 1 ≤ (U.size : Int) := by omega
                have hq0 : (0 : Int) ≤ (q : Int) := by omega
                have hov : ¬ 9223372036854775807 < U.size + (min (q + 1) U.size - q) := by omega
                have hov2 : ¬ 9223372036854775807 < U.size + 1 := by omega
                have hD1 : 1 ≤ D := by omega
                have Hsucc : Hid (rep D T.data.toList (j + 1) = (U ++ U.extract q (q + 1)).data.toList) := by
                  show rep D T.data.toList j ++ [_] = _
                  rw [toL_append, extract_one U q (by omega), ← HU.out, show U.data.toList.length = U.size by simp, show U.size - D = q by omega]
                have hsz : (U ++ U.extract q (q + 1)).size = T.size + (j + 1) := by simp; omega
                have Hsz := Lib.hid hsz
                clear hsz
                go_wp2_with fail
                go_round
                case rel => exact ⟨j + 1, _, by omega, by go_num, rfl, Hsz.out, by show _ = _; rw [Hsucc.out]⟩
                case measure => simp [intOf]; omega
              · obtain rfl : j = L := by omega
                go_wp2_with fail
                go_roundw
                case rel => exact ⟨k + 1, U, by omega, by go_num, rfl, .inr (by omega), by show texp _ _ _ = _; rw [HU.out]; exact HRN.out, HB4⟩
                case measure => simp [intOf]; omega
    · obtain rfl : k = N := by omega
      have hRd : R = (T.data.toList, 0) := by
        rw [← HR.out, List.drop_of_length_le (by rw [HN.out]; exact Nat.le_refl _)]; rfl
      have HRd := Lib.hid hRd
      clear hRd
      go_wp2_with fail
      go_ret2
      exact ⟨by rw [HRd.out]; rfl, HB.out⟩
end Go.Proofs.Ytjnglahjngiofaa
namespace Go.Proofs.Ytjnglahjngiofaa
open Go.RowKit

theorem thenR_inv {α β : Type} {x : Rs α} {f : α → Sg → Rs β} {b : β} {σ' : Sg} (h : thenR x f = .ok (b, σ')) : ∃ a σ1, x = .ok (a, σ1) ∧ f a σ1 = .ok (b, σ') := by
  rcases x with e | ⟨a, σ⟩
  · cases h
  · exact ⟨a, σ, rfl, h⟩
/-- What is read is not given back. -/
def Mono {α : Type} (x : Rs α) (σ : Sg) : Prop := ∀ a σ', x = .ok (a, σ') → σ'.n ≤ σ.n
theorem Mono.err {α : Type} (e : Nat) (σ : Sg) : Mono (.error e : Rs α) σ := fun _ _ h => by cases h
theorem Mono.ret {α : Type} (a : α) (σ : Sg) : Mono (.ok (a, σ) : Rs α) σ := fun _ _ h => by injection h with h; injection h with _ h; subst h; exact Nat.le_refl _
theorem Mono.then {α β : Type} {x : Rs α} {f : α → Sg → Rs β} {σ : Sg} (h : Mono x σ) (k : ∀ a σ1, Mono (f a σ1) σ1) : Mono (thenR x f) σ := fun b σ' e => by
  obtain ⟨a, σ1, h1, h2⟩ := thenR_inv e
  exact Nat.le_trans (k a σ1 b σ' h2) (h a σ1 h1)
theorem bitsM_mono (k : Nat) (σ : Sg) : Mono (bitsM k σ) σ := fun a σ' h => by
  unfold bitsM at h
  split at h
  · cases h
  · injection h with h; injection h with _ h; subst h; exact Nat.sub_le _ _
theorem symM_mono (L : Nat → Nat) (c : Nat) (σ : Sg) : Mono (symM L c σ) σ := fun a σ' h => by
  unfold symM at h
  split at h
  · injection h with h; injection h with _ h; subst h; exact Nat.sub_le _ _
  · cases h
theorem growM_mono (most k : Nat) (σ : Sg) : Mono (growM most k σ) σ := fun a σ' h => by
  unfold growM at h
  split at h
  · cases h
  · injection h with h; injection h with _ h; subst h; exact Nat.le_refl _
theorem checkM_mono (ok : Prop) [Decidable ok] (e : Nat) (σ : Sg) : Mono (checkM ok e σ) σ := by
  unfold checkM
  split
  · exact Mono.ret _ _
  · exact Mono.err _ _
theorem tokStep_mono (L : Nat → Nat) (c : Nat) (D : Nat → Nat) (d most : Nat) (σ : Sg) : Mono (tokStep L c D d most σ) σ := by
  unfold tokStep
  refine (symM_mono L c σ).then fun s σ1 => ?_
  split
  · exact Mono.ret _ _
  split
  · exact (growM_mono _ _ _).then fun _ σ2 => Mono.ret _ _
  split
  · exact Mono.err _ _
  refine (bitsM_mono _ _).then fun b σ2 => (symM_mono _ _ _).then fun q σ3 => ?_
  split
  · exact Mono.err _ _
  refine (bitsM_mono _ _).then fun g σ4 => ?_
  split
  · exact Mono.err _ _
  exact (growM_mono _ _ _).then fun _ σ5 => Mono.ret _ _
theorem tokM_mono (L : Nat → Nat) (c : Nat) (D : Nat → Nat) (d most : Nat) : ∀ (f : Nat) (σ : Sg) (S : List Tok), Mono (tokM L c D d most f σ S) σ := by
  intro f
  induction f with
  | zero => intro σ S; exact Mono.err _ _
  | succ f ih =>
    intro σ S
    show Mono (thenR _ _) σ
    refine (tokStep_mono L c D d most σ).then fun t σ1 => ?_
    cases t with
    | none => exact Mono.ret _ _
    | some t => exact ih σ1 _
theorem tokensM_mono (m : Nat → Int) (c : Nat) (md : Nat → Int) (d most : Nat) (σ : Sg) : Mono (tokensM m c md d most σ) σ :=
  (checkM_mono _ _ _).then fun _ _ => (checkM_mono _ _ _).then fun _ _ => tokM_mono _ _ _ _ _ _ _ _
theorem storedM_mono (most : Nat) (σ : Sg) : Mono (storedM most σ) σ := by
  intro a σ' h
  have h0 : (evenM σ).n ≤ σ.n := Nat.sub_le _ _
  refine Nat.le_trans ?_ h0
  have hm : Mono (storedM most σ) (evenM σ) := by
    unfold storedM
    refine (bitsM_mono _ _).then fun a σ1 => (bitsM_mono _ _).then fun b σ2 => ?_
    split
    · exact Mono.err _ _
    split
    · exact Mono.err _ _
    intro a' σ'' h
    obtain ⟨u, σ3, h1, h2⟩ := thenR_inv h
    have h3 := growM_mono _ _ _ u σ3 h1
    injection h2 with h2
    injection h2 with _ h2
    subst h2
    exact Nat.le_trans h3 (Nat.sub_le _ _)
  exact hm a σ' h
theorem firstM_mono : ∀ (r : List Nat) (m : Nat → Int) (σ : Sg), Mono (firstM r m σ) σ := by
  intro r
  induction r with
  | nil => intro m σ; exact Mono.ret _ _
  | cons s r ih => intro m σ; exact (bitsM_mono 3 σ).then fun v σ1 => ih _ _
theorem lenStep_mono (K : Nat → Nat) (σ : Sg) (l : List Nat) : Mono (lenStep K σ l) σ := by
  unfold lenStep
  refine (symM_mono _ _ _).then fun s σ1 => ?_
  split
  · split
    · exact Mono.err _ _
    · exact (bitsM_mono _ _).then fun _ _ => Mono.ret _ _
  split
  · exact (bitsM_mono _ _).then fun _ _ => Mono.ret _ _
  split
  · exact (bitsM_mono _ _).then fun _ _ => Mono.ret _ _
  exact Mono.ret _ _
theorem lenLoop_mono (K : Nat → Nat) (need : Nat) : ∀ (f : Nat) (σ : Sg) (l : List Nat), Mono (lenLoop K need f σ l) σ := by
  intro f
  induction f with
  | zero => intro σ l; exact Mono.err _ _
  | succ f ih =>
    intro σ l
    show Mono (if _ then _ else _) σ
    split
    · exact (lenStep_mono _ _ _).then fun l' σ1 => ih σ1 l'
    · exact Mono.ret _ _
theorem dynM_mono (σ : Sg) : Mono (dynM σ) σ := by
  unfold dynM
  refine (bitsM_mono _ _).then fun a σ1 => (bitsM_mono _ _).then fun b σ2 => (bitsM_mono _ _).then fun c σ3 => ?_
  split
  · exact Mono.err _ _
  refine (firstM_mono _ _ _).then fun m σ4 => (checkM_mono _ _ _).then fun _ σ5 => (lenLoop_mono _ _ _ _ _).then fun l σ6 => ?_
  split
  · exact Mono.err _ _
  · exact Mono.ret _ _
end Go.Proofs.Ytjnglahjngiofaa
namespace Go.Proofs.Ytjnglahjngiofaa
open Go.RowKit

def tlen (t : Tok) : Nat := if t.l = 0 then 1 else t.l.toNat
theorem tout_len (o : List UInt8) (t : Tok) : (tout o t).length = o.length + tlen t := by
  unfold tout tlen
  split
  · rw [List.length_append]; rfl
  · exact rep_len _ _ _
def joinS (o : List UInt8) (S : List Tok) : List UInt8 := S.foldl tout o
def joinB (o : List UInt8) (b : Bk) : List UInt8 := joinS (o ++ b.bytes) b.toks
def joinL (o : List UInt8) (bs : List Bk) : List UInt8 := bs.foldl joinB o
def tlenS (S : List Tok) : Nat := (S.map tlen).sum
def blen (b : Bk) : Nat := b.bytes.length + tlenS b.toks
def blenS (bs : List Bk) : Nat := (bs.map blen).sum
theorem joinS_len (S : List Tok) : ∀ o, (joinS o S).length = o.length + tlenS S := by
  induction S with
  | nil => intro o; rfl
  | cons t r ih =>
    intro o
    show (joinS (tout o t) r).length = _
    rw [ih, tout_len]
    show _ = o.length + (tlen t + tlenS r)
    omega
theorem joinB_len (o : List UInt8) (b : Bk) : (joinB o b).length = o.length + blen b := by
  unfold joinB blen
  rw [joinS_len, List.length_append]
  omega
theorem joinL_len (bs : List Bk) : ∀ o, (joinL o bs).length = o.length + blenS bs := by
  induction bs with
  | nil => intro o; rfl
  | cons b r ih =>
    intro o
    show (joinL (joinB o b) r).length = _
    rw [ih, joinB_len]
    show _ = o.length + (blen b + blenS r)
    omega
/-- A token that can be told behind n bytes. -/
def tokOK (n : Nat) (t : Tok) : Prop := t.l = 0 ∨ (0 < t.l ∧ t.l ≤ 300 ∧ 1 ≤ t.d ∧ t.d ≤ (n : Int))
def toksOK : Nat → List Tok → Prop
  | _, [] => True
  | n, t :: r => tokOK n t ∧ toksOK (n + tlen t) r
def blksOK : Nat → List Bk → Prop
  | _, [] => True
  | n, b :: r => toksOK (n + b.bytes.length) b.toks ∧ blksOK (n + blen b) r
theorem toksOK_append (S T : List Tok) : ∀ n, toksOK n (S ++ T) ↔ toksOK n S ∧ toksOK (n + tlenS S) T := by
  induction S with
  | nil => intro n; exact ⟨fun h => ⟨trivial, h⟩, fun h => h.2⟩
  | cons t r ih =>
    intro n
    have e : n + tlen t + tlenS r = n + tlenS (t :: r) := by show _ = n + (tlen t + tlenS r); omega
    show tokOK n t ∧ toksOK (n + tlen t) (r ++ T) ↔ (tokOK n t ∧ toksOK (n + tlen t) r) ∧ _
    rw [ih, e, and_assoc]
theorem tlenS_append (S T : List Tok) : tlenS (S ++ T) = tlenS S + tlenS T := by unfold tlenS; rw [List.map_append, List.sum_append]
theorem blksOK_append (S T : List Bk) : ∀ n, blksOK n (S ++ T) ↔ blksOK n S ∧ blksOK (n + blenS S) T := by
  induction S with
  | nil => intro n; exact ⟨fun h => ⟨trivial, h⟩, fun h => h.2⟩
  | cons t r ih =>
    intro n
    have e : n + blen t + blenS r = n + blenS (t :: r) := by show _ = n + (blen t + blenS r); omega
    show _ ∧ blksOK (n + blen t) (r ++ T) ↔ (_ ∧ blksOK (n + blen t) r) ∧ _
    rw [ih, e, and_assoc]
theorem blenS_append (S T : List Bk) : blenS (S ++ T) = blenS S + blenS T := by unfold blenS; rw [List.map_append, List.sum_append]

theorem bitsM_out {k : Nat} {σ σ' : Sg} {a : Nat} (h : bitsM k σ = .ok (a, σ')) : σ'.out = σ.out ∧ a < 2 ^ k := by
  unfold bitsM at h
  split at h
  · cases h
  · injection h with h; injection h with h1 h; subst h; subst h1; exact ⟨rfl, Nat.mod_lt _ (Nat.two_pow_pos k)⟩
theorem symM_out {L : Nat → Nat} {c : Nat} {σ σ' : Sg} {a : Nat} (h : symM L c σ = .ok (a, σ')) : σ'.out = σ.out := by
  unfold symM at h
  split at h
  · injection h with h; injection h with _ h; subst h; rfl
  · cases h
theorem growM_out {most k : Nat} {σ σ' : Sg} {a : Unit} (h : growM most k σ = .ok (a, σ')) : σ'.out = σ.out + k ∧ σ'.out ≤ most := by
  unfold growM at h
  split at h
  · cases h
  · injection h with h; injection h with _ h; subst h; exact ⟨rfl, by show σ.out + k ≤ most; omega⟩
theorem checkM_out {ok : Prop} [Decidable ok] {e : Nat} {σ σ' : Sg} {a : Unit} (h : checkM ok e σ = .ok (a, σ')) : σ' = σ ∧ ok := by
  unfold checkM at h
  split at h
  · injection h with h; injection h with _ h; exact ⟨h.symm, by assumption⟩
  · cases h
theorem near_small (s : Nat) (h1 : ¬ s < 256) (h0 : s ≠ 256) (h2 : ¬ 285 < s) : 3 ≤ (sizeS false ((s : Int) - 257)).1 ∧ (sizeS false ((s : Int) - 257)).1 ≤ 258 ∧ (sizeS false ((s : Int) - 257)).2 ≤ 5 := by
  have e : (s : Int) - 257 = ((s - 257 : Nat) : Int) := by omega
  rw [e]
  have key : ∀ i : Nat, i ≤ 28 → 3 ≤ (sizeS false (i : Int)).1 ∧ (sizeS false (i : Int)).1 ≤ 258 ∧ (sizeS false (i : Int)).2 ≤ 5 := by decide
  exact key _ (by omega)
theorem far_small (q : Nat) (h : ¬ 29 < q) : 1 ≤ (sizeS true (q : Int)).1 := by
  have key : ∀ i : Nat, i ≤ 29 → 1 ≤ (sizeS true (i : Int)).1 := by decide
  exact key q (by omega)
/-- One token that is read can be told, and so much comes out. -/
theorem tokStep_ok {L : Nat → Nat} {c : Nat} {D : Nat → Nat} {d most : Nat} {σ σ' : Sg} {r : Option Tok} (h : tokStep L c D d most σ = .ok (r, σ')) (hm : σ.out ≤ most) :
    σ'.out ≤ most ∧ ((r = none ∧ σ'.out = σ.out) ∨ ∃ t, r = some t ∧ tokOK σ.out t ∧ σ'.out = σ.out + tlen t) := by
  unfold tokStep at h
  obtain ⟨s, σ1, h1, h⟩ := thenR_inv h
  have o1 := symM_out h1
  by_cases h256 : s = 256
  · rw [if_pos h256] at h
    injection h with h; injection h with h2 h; subst h; subst h2
    exact ⟨by omega, .inl ⟨rfl, o1⟩⟩
  rw [if_neg h256] at h
  by_cases hlt : s < 256
  · rw [if_pos hlt] at h
    obtain ⟨u, σ2, h2, h⟩ := thenR_inv h
    have o2 := growM_out h2
    injection h with h; injection h with h3 h; subst h; subst h3
    exact ⟨o2.2, .inr ⟨_, rfl, .inl rfl, by rw [o2.1, o1]; rfl⟩⟩
  rw [if_neg hlt] at h
  by_cases h285 : 285 < s
  · rw [if_pos h285] at h; cases h
  rw [if_neg h285] at h
  obtain ⟨hb3, hb258, hm5⟩ := near_small s hlt h256 h285
  obtain ⟨b, σ2, h2, h⟩ := thenR_inv h
  have o2 := bitsM_out h2
  obtain ⟨q, σ3, h3, h⟩ := thenR_inv h
  have o3 := symM_out h3
  by_cases h29 : 29 < q
  · rw [if_pos h29] at h; cases h
  rw [if_neg h29] at h
  obtain ⟨g, σ4, h4, h⟩ := thenR_inv h
  have o4 := bitsM_out h4
  have hfb := far_small q h29
  have hb32 : b < 32 := Nat.lt_of_lt_of_le o2.2 (Nat.le_trans (Nat.pow_le_pow_right (by decide) hm5) (by decide))
  by_cases hd : σ4.out < (sizeS true (q : Int)).1 + g
  · rw [if_pos hd] at h; cases h
  rw [if_neg hd] at h
  obtain ⟨u, σ5, h5, h⟩ := thenR_inv h
  have o5 := growM_out h5
  injection h with h; injection h with h6 h; subst h; subst h6
  have hpos : ¬ ((((sizeS false ((s : Int) - 257)).1 + b : Nat) : Int) = 0) := by omega
  refine ⟨o5.2, .inr ⟨_, rfl, .inr ⟨?_, ?_, ?_, ?_⟩, ?_⟩⟩
  · show (0 : Int) < (((sizeS false ((s : Int) - 257)).1 + b : Nat) : Int); omega
  · show (((sizeS false ((s : Int) - 257)).1 + b : Nat) : Int) ≤ 300; omega
  · show (1 : Int) ≤ (((sizeS true (q : Int)).1 + g : Nat) : Int); omega
  · show (((sizeS true (q : Int)).1 + g : Nat) : Int) ≤ (σ.out : Int); omega
  · rw [o5.1]
    unfold tlen
    rw [if_neg hpos]
    show σ4.out + _ = σ.out + (((sizeS false ((s : Int) - 257)).1 + b : Nat) : Int).toNat
    rw [Int.toNat_natCast]
    omega
theorem tokM_ok {L : Nat → Nat} {c : Nat} {D : Nat → Nat} {d most : Nat} : ∀ (f : Nat) {σ σ' : Sg} {S S' : List Tok}, tokM L c D d most f σ S = .ok (S', σ') → σ.out ≤ most → ∃ T, S' = S ++ T ∧ toksOK σ.out T ∧ σ'.out = σ.out + tlenS T ∧ σ'.out ≤ most := by
  intro f
  induction f with
  | zero => intro σ σ' S S' h; cases h
  | succ f ih =>
    intro σ σ' S S' h hm
    obtain ⟨r, σ1, h1, h⟩ := thenR_inv (x := tokStep L c D d most σ) h
    obtain ⟨hm1, ⟨rfl, ho⟩ | ⟨t, rfl, hok, ho⟩⟩ := tokStep_ok h1 hm
    · injection h with h; injection h with h2 h; subst h; subst h2
      exact ⟨[], by simp, trivial, by rw [ho]; rfl, hm1⟩
    · obtain ⟨T, hS, hT, ho2, hm2⟩ := ih h hm1
      refine ⟨t :: T, by rw [hS]; simp, ⟨hok, by rw [← ho]; exact hT⟩, ?_, hm2⟩
      rw [ho2, ho]
      show _ = σ.out + (tlen t + tlenS T)
      omega
theorem tokensM_ok {m : Nat → Int} {c : Nat} {md : Nat → Int} {d most : Nat} {σ σ' : Sg} {S : List Tok} (h : tokensM m c md d most σ = .ok (S, σ')) (hm : σ.out ≤ most) : toksOK σ.out S ∧ σ'.out = σ.out + tlenS S ∧ σ'.out ≤ most := by
  obtain ⟨_, σ1, h1, k1⟩ := thenR_inv (x := fitM m c σ) h
  obtain ⟨_, σ2, h2, k2⟩ := thenR_inv k1
  obtain ⟨e1, _⟩ := checkM_out h1
  obtain ⟨e2, _⟩ := checkM_out h2
  rw [e2, e1] at k2
  obtain ⟨T, hS, a, b, c⟩ := tokM_ok _ k2 hm
  rw [List.nil_append] at hS
  subst hS
  exact ⟨a, b, c⟩
theorem bytesX_len (k : Nat) : ∀ X, (bytesX X k).length = k := by
  induction k with
  | zero => intro X; rfl
  | succ k ih => intro X; show (bytesX (X / 256) k).length + 1 = k + 1; rw [ih]
theorem storedM_ok {most : Nat} {σ σ' : Sg} {l : List UInt8} (h : storedM most σ = .ok (l, σ')) : σ'.out = σ.out + l.length ∧ σ'.out ≤ most := by
  unfold storedM at h
  obtain ⟨a, σ1, h1, h⟩ := thenR_inv h
  obtain ⟨b, σ2, h2, h⟩ := thenR_inv h
  have o1 := (bitsM_out h1).1
  have o2 := (bitsM_out h2).1
  have o0 : (evenM σ).out = σ.out := rfl
  split at h
  · cases h
  split at h
  · cases h
  obtain ⟨u, σ3, h3, h⟩ := thenR_inv h
  have o3 := growM_out h3
  injection h with h; injection h with h4 h; subst h; subst h4
  refine ⟨?_, o3.2⟩
  rw [bytesX_len, o3.1]
  show σ2.out + a = _
  omega
theorem firstM_out : ∀ (r : List Nat) {m m' : Nat → Int} {σ σ' : Sg}, firstM r m σ = .ok (m', σ') → σ'.out = σ.out := by
  intro r
  induction r with
  | nil => intro m m' σ σ' h; injection h with h; injection h with _ h; subst h; rfl
  | cons s r ih =>
    intro m m' σ σ' h
    obtain ⟨v, σ1, h1, h⟩ := thenR_inv (x := bitsM 3 σ) h
    rw [ih h, (bitsM_out h1).1]
theorem lenStep_out {K : Nat → Nat} {σ σ' : Sg} {l l' : List Nat} (h : lenStep K σ l = .ok (l', σ')) : σ'.out = σ.out := by
  unfold lenStep at h
  obtain ⟨s, σ1, h1, h⟩ := thenR_inv h
  have o1 := symM_out h1
  split at h
  · split at h
    · cases h
    · obtain ⟨b, σ2, h2, h⟩ := thenR_inv h
      injection h with h; injection h with _ h; subst h
      rw [(bitsM_out h2).1, o1]
  split at h
  · obtain ⟨b, σ2, h2, h⟩ := thenR_inv h
    injection h with h; injection h with _ h; subst h
    rw [(bitsM_out h2).1, o1]
  split at h
  · obtain ⟨b, σ2, h2, h⟩ := thenR_inv h
    injection h with h; injection h with _ h; subst h
    rw [(bitsM_out h2).1, o1]
  injection h with h; injection h with _ h; subst h
  exact o1
theorem lenLoop_out {K : Nat → Nat} {need : Nat} : ∀ (f : Nat) {σ σ' : Sg} {l l' : List Nat}, lenLoop K need f σ l = .ok (l', σ') → σ'.out = σ.out := by
  intro f
  induction f with
  | zero => intro σ σ' l l' h; cases h
  | succ f ih =>
    intro σ σ' l l' h
    have h' : (if l.length < need then thenR (lenStep K σ l) fun l' σ1 => lenLoop K need f σ1 l' else .ok (l, σ)) = .ok (l', σ') := h
    split at h'
    · obtain ⟨a, σ1, h1, h2⟩ := thenR_inv h'
      rw [ih h2, lenStep_out h1]
    · injection h' with h'; injection h' with _ h'; subst h'; rfl
theorem dynM_out {σ σ' : Sg} {r : List Nat × Nat} (h : dynM σ = .ok (r, σ')) : σ'.out = σ.out := by
  unfold dynM at h
  obtain ⟨a, σ1, h1, h⟩ := thenR_inv h
  obtain ⟨b, σ2, h2, h⟩ := thenR_inv h
  obtain ⟨c, σ3, h3, h⟩ := thenR_inv h
  split at h
  · cases h
  obtain ⟨m, σ4, h4, h⟩ := thenR_inv h
  obtain ⟨_, σ5, h5, h⟩ := thenR_inv h
  obtain ⟨l, σ6, h6, h⟩ := thenR_inv h
  obtain ⟨e5, _⟩ := checkM_out h5
  split at h
  · cases h
  injection h with h; injection h with _ h; subst h
  rw [lenLoop_out _ h6, e5, firstM_out _ h4, (bitsM_out h3).1, (bitsM_out h2).1, (bitsM_out h1).1]
theorem blockM_ok {most : Nat} {σ σ' : Sg} {r : Nat × Bk} (h : blockM most σ = .ok (r, σ')) (hm : σ.out ≤ most) : toksOK (σ.out + r.2.bytes.length) r.2.toks ∧ σ'.out = σ.out + blen r.2 ∧ σ'.out ≤ most := by
  unfold blockM at h
  obtain ⟨a, σ1, h1, h⟩ := thenR_inv h
  obtain ⟨b, σ2, h2, h⟩ := thenR_inv h
  have o : σ2.out = σ.out := by rw [(bitsM_out h2).1, (bitsM_out h1).1]
  split at h
  · obtain ⟨l, σ3, h3, h⟩ := thenR_inv h
    have o3 := storedM_ok h3
    injection h with h; injection h with h4 h; subst h; subst h4
    refine ⟨trivial, ?_, o3.2⟩
    show _ = σ.out + (l.length + 0)
    omega
  split at h
  · obtain ⟨S, σ3, h3, h⟩ := thenR_inv h
    obtain ⟨a1, a2, a3⟩ := tokensM_ok h3 (by omega)
    injection h with h; injection h with h4 h; subst h; subst h4
    refine ⟨by rw [o] at a1; exact a1, ?_, a3⟩
    show _ = σ.out + (0 + tlenS S)
    omega
  split at h
  · obtain ⟨l, σ3, h3, h⟩ := thenR_inv h
    obtain ⟨S, σ4, h4, h⟩ := thenR_inv h
    have o3 := dynM_out h3
    obtain ⟨a1, a2, a3⟩ := tokensM_ok h4 (by omega)
    injection h with h; injection h with h5 h; subst h; subst h5
    refine ⟨by rw [o3, o] at a1; exact a1, ?_, a3⟩
    show _ = σ.out + (0 + tlenS S)
    omega
  · cases h
theorem blocksM_ok {most : Nat} : ∀ (f : Nat) {σ σ' : Sg} {bs bs' : List Bk}, blocksM most f σ bs = .ok (bs', σ') → σ.out ≤ most → ∃ c, bs' = bs ++ c ∧ blksOK σ.out c ∧ σ'.out = σ.out + blenS c ∧ σ'.out ≤ most := by
  intro f
  induction f with
  | zero => intro σ σ' bs bs' h; cases h
  | succ f ih =>
    intro σ σ' bs bs' h hm
    obtain ⟨r, σ1, h1, h⟩ := thenR_inv (x := blockM most σ) h
    obtain ⟨a1, a2, a3⟩ := blockM_ok h1 hm
    split at h
    · obtain ⟨c, b1, b2, b3, b4⟩ := ih h a3
      refine ⟨r.2 :: c, by rw [b1]; simp, ⟨a1, by rw [← a2]; exact b2⟩, ?_, b4⟩
      rw [b3, a2]
      show _ = σ.out + (blen r.2 + blenS c)
      omega
    · injection h with h; injection h with h2 h; subst h; subst h2
      refine ⟨[r.2], rfl, ⟨a1, trivial⟩, ?_, a3⟩
      rw [a2]
      show _ = σ.out + (blen r.2 + 0)
      rfl
end Go.Proofs.Ytjnglahjngiofaa
namespace Go.Proofs.Ytjnglahjngiofaa
open Go.RowKit

/-- What is read is not given back, and what has come out stays out. -/
def Up {α : Type} (x : Rs α) (σ : Sg) : Prop := ∀ a σ', x = .ok (a, σ') → σ'.n ≤ σ.n ∧ σ.out ≤ σ'.out
theorem Up.err {α : Type} (e : Nat) (σ : Sg) : Up (.error e : Rs α) σ := fun _ _ h => by cases h
theorem Up.ret {α : Type} (a : α) (σ : Sg) : Up (.ok (a, σ) : Rs α) σ := fun _ _ h => by injection h with h; injection h with _ h; subst h; exact ⟨Nat.le_refl _, Nat.le_refl _⟩
theorem Up.then {α β : Type} {x : Rs α} {f : α → Sg → Rs β} {σ : Sg} (h : Up x σ) (k : ∀ a σ1, Up (f a σ1) σ1) : Up (thenR x f) σ := fun b σ' e => by
  obtain ⟨a, σ1, h1, h2⟩ := thenR_inv e
  exact ⟨Nat.le_trans (k a σ1 b σ' h2).1 (h a σ1 h1).1, Nat.le_trans (h a σ1 h1).2 (k a σ1 b σ' h2).2⟩
theorem bitsM_up (k : Nat) (σ : Sg) : Up (bitsM k σ) σ := fun a σ' h => ⟨bitsM_mono k σ a σ' h, Nat.le_of_eq (bitsM_out h).1.symm⟩
theorem symM_up (L : Nat → Nat) (c : Nat) (σ : Sg) : Up (symM L c σ) σ := fun a σ' h => ⟨symM_mono L c σ a σ' h, Nat.le_of_eq (symM_out h).symm⟩
theorem growM_up (most k : Nat) (σ : Sg) : Up (growM most k σ) σ := fun a σ' h => ⟨growM_mono most k σ a σ' h, by rw [(growM_out h).1]; exact Nat.le_add_right _ _⟩
theorem checkM_up (ok : Prop) [Decidable ok] (e : Nat) (σ : Sg) : Up (checkM ok e σ) σ := by
  unfold checkM
  split
  · exact Up.ret _ _
  · exact Up.err _ _
theorem tokStep_up (L : Nat → Nat) (c : Nat) (D : Nat → Nat) (d most : Nat) (σ : Sg) : Up (tokStep L c D d most σ) σ := by
  unfold tokStep
  refine (symM_up L c σ).then fun s σ1 => ?_
  split
  · exact Up.ret _ _
  split
  · exact (growM_up _ _ _).then fun _ σ2 => Up.ret _ _
  split
  · exact Up.err _ _
  refine (bitsM_up _ _).then fun b σ2 => (symM_up _ _ _).then fun q σ3 => ?_
  split
  · exact Up.err _ _
  refine (bitsM_up _ _).then fun g σ4 => ?_
  split
  · exact Up.err _ _
  exact (growM_up _ _ _).then fun _ σ5 => Up.ret _ _
theorem tokM_up (L : Nat → Nat) (c : Nat) (D : Nat → Nat) (d most : Nat) : ∀ (f : Nat) (σ : Sg) (S : List Tok), Up (tokM L c D d most f σ S) σ := by
  intro f
  induction f with
  | zero => intro σ S; exact Up.err _ _
  | succ f ih =>
    intro σ S
    show Up (thenR _ _) σ
    refine (tokStep_up L c D d most σ).then fun t σ1 => ?_
    cases t with
    | none => exact Up.ret _ _
    | some t => exact ih σ1 _
theorem tokensM_up (m : Nat → Int) (c : Nat) (md : Nat → Int) (d most : Nat) (σ : Sg) : Up (tokensM m c md d most σ) σ :=
  (checkM_up _ _ _).then fun _ _ => (checkM_up _ _ _).then fun _ _ => tokM_up _ _ _ _ _ _ _ _
theorem storedM_up (most : Nat) (σ : Sg) : Up (storedM most σ) σ := fun l σ' h => ⟨storedM_mono most σ l σ' h, by rw [(storedM_ok h).1]; exact Nat.le_add_right _ _⟩
theorem firstM_up : ∀ (r : List Nat) (m : Nat → Int) (σ : Sg), Up (firstM r m σ) σ := by
  intro r
  induction r with
  | nil => intro m σ; exact Up.ret _ _
  | cons s r ih => intro m σ; exact (bitsM_up 3 σ).then fun v σ1 => ih _ _
theorem lenStep_up (K : Nat → Nat) (σ : Sg) (l : List Nat) : Up (lenStep K σ l) σ := by
  unfold lenStep
  refine (symM_up _ _ _).then fun s σ1 => ?_
  split
  · split
    · exact Up.err _ _
    · exact (bitsM_up _ _).then fun _ _ => Up.ret _ _
  split
  · exact (bitsM_up _ _).then fun _ _ => Up.ret _ _
  split
  · exact (bitsM_up _ _).then fun _ _ => Up.ret _ _
  exact Up.ret _ _
theorem lenLoop_up (K : Nat → Nat) (need : Nat) : ∀ (f : Nat) (σ : Sg) (l : List Nat), Up (lenLoop K need f σ l) σ := by
  intro f
  induction f with
  | zero => intro σ l; exact Up.err _ _
  | succ f ih =>
    intro σ l
    show Up (if _ then _ else _) σ
    split
    · exact (lenStep_up _ _ _).then fun l' σ1 => ih σ1 l'
    · exact Up.ret _ _
theorem dynM_up (σ : Sg) : Up (dynM σ) σ := by
  unfold dynM
  refine (bitsM_up _ _).then fun a σ1 => (bitsM_up _ _).then fun b σ2 => (bitsM_up _ _).then fun c σ3 => ?_
  split
  · exact Up.err _ _
  refine (firstM_up _ _ _).then fun m σ4 => (checkM_up _ _ _).then fun _ σ5 => (lenLoop_up _ _ _ _ _).then fun l σ6 => ?_
  split
  · exact Up.err _ _
  · exact Up.ret _ _
theorem blockM_up (most : Nat) (σ : Sg) : Up (blockM most σ) σ := by
  unfold blockM
  refine (bitsM_up _ _).then fun last σ1 => (bitsM_up _ _).then fun k σ2 => ?_
  split
  · exact (storedM_up _ _).then fun _ _ => Up.ret _ _
  split
  · exact (tokensM_up _ _ _ _ _ _).then fun _ _ => Up.ret _ _
  split
  · exact (dynM_up _).then fun _ _ => (tokensM_up _ _ _ _ _ _).then fun _ _ => Up.ret _ _
  exact Up.err _ _
theorem blocksM_up (most : Nat) : ∀ (f : Nat) (σ : Sg) (S : List Bk), Up (blocksM most f σ S) σ := by
  intro f
  induction f with
  | zero => intro σ S; exact Up.err _ _
  | succ f ih =>
    intro σ S
    show Up (thenR _ _) σ
    refine (blockM_up most σ).then fun r σ1 => ?_
    split
    · exact ih σ1 _
    · exact Up.ret _ _
end Go.Proofs.Ytjnglahjngiofaa
namespace Go.Proofs.Ytjnglahjngiofaa
open Go.RowKit

/-- What is read at σ is read at the other place, too: all of it if what comes after is good; else an error. -/
def Sim (φ : Sg → Sg) (good : Sg → Prop) (e : Nat) {α : Type} (x x' : Rs α) : Prop := ∀ a σ1, x = .ok (a, σ1) → (good σ1 ∧ x' = .ok (a, φ σ1)) ∨ (¬ good σ1 ∧ x' = .error e)
section
variable {φ : Sg → Sg} {good : Sg → Prop} {e : Nat}
theorem Sim.err {α : Type} (k : Nat) (x' : Rs α) : Sim φ good e (.error k : Rs α) x' := fun _ _ h => by cases h
theorem Sim.ret {α : Type} (a : α) (σ : Sg) (h : good σ) : Sim φ good e (.ok (a, σ) : Rs α) (.ok (a, φ σ)) := fun _ _ h2 => by
  injection h2 with h2; injection h2 with h3 h2; subst h2; subst h3; exact .inl ⟨h, rfl⟩
theorem Sim.then {α β : Type} {x x' : Rs α} {f f' : α → Sg → Rs β} (hg : ∀ σ σ', good σ' → σ'.n ≤ σ.n → σ.out ≤ σ'.out → good σ) (h : Sim φ good e x x') (hu : ∀ a σ1, Up (f a σ1) σ1)
    (k : ∀ a σ1, x = .ok (a, σ1) → good σ1 → x' = .ok (a, φ σ1) → Sim φ good e (f a σ1) (f' a (φ σ1))) : Sim φ good e (thenR x f) (thenR x' f') := fun b σ2 hb => by
  obtain ⟨a, σ1, h1, h2⟩ := thenR_inv hb
  rcases h a σ1 h1 with ⟨h3, h4⟩ | ⟨h3, h4⟩
  · have := k a σ1 h1 h3 h4 b σ2 h2
    rw [h4]
    exact this
  · refine .inr ⟨fun h5 => h3 (hg σ1 σ2 h5 (hu a σ1 b σ2 h2).1 (hu a σ1 b σ2 h2).2), ?_⟩
    rw [h4]; rfl
end
/-- k whole bytes. -/
def takeM (k : Nat) (σ : Sg) : Rs (List UInt8) := if σ.n < 8 * k then .error 6 else .ok (bytesX σ.X k, ⟨σ.X / 2 ^ (8 * k), σ.n - 8 * k, σ.out⟩)
theorem takeM_up (k : Nat) (σ : Sg) : Up (takeM k σ) σ := fun a σ' h => by
  unfold takeM at h
  split at h
  · cases h
  · injection h with h; injection h with _ h; subst h; exact ⟨Nat.sub_le _ _, Nat.le_refl _⟩
theorem storedM_take (most : Nat) (σ : Sg) : storedM most σ = thenR (bitsM 16 (evenM σ)) fun a σ1 => thenR (bitsM 16 σ1) fun b σ2 => if a + b ≠ 65535 then .error 3 else thenR (takeM a σ2) fun l σ3 => thenR (growM most a σ3) fun _ σ4 => .ok (l, σ4) := by
  unfold storedM
  congr 1
  funext a σ1
  congr 1
  funext b σ2
  split
  · rfl
  unfold takeM
  split <;> rfl
/-- Two ways of reading. -/
structure Way (φ : Sg → Sg) (good : Sg → Prop) (e most most' : Nat) : Prop where
  mono : ∀ σ σ', good σ' → σ'.n ≤ σ.n → σ.out ≤ σ'.out → good σ
  bits : ∀ k σ, good σ → Sim φ good e (bitsM k σ) (bitsM k (φ σ))
  sym : ∀ L c σ, (∀ i, i < c → L i ≤ 15) → good σ → Sim φ good e (symM L c σ) (symM L c (φ σ))
  grow : ∀ k σ, good σ → Sim φ good e (growM most k σ) (growM most' k (φ σ))
  out : ∀ σ, (φ σ).out = σ.out
  even : ∀ σ, good σ → φ (evenM σ) = evenM (φ σ) ∧ good (evenM σ)
  take : ∀ k σ, good σ → Sim φ good e (takeM k σ) (takeM k (φ σ))
/-- A symbol has a bit at least, and is one that has a code. -/
theorem symM_less {L : Nat → Nat} {c : Nat} {σ σ' : Sg} {a : Nat} (h : symM L c σ = .ok (a, σ')) : σ'.n < σ.n ∧ a < c := by
  classical
  unfold symM at h
  by_cases h0 : (nextR L c σ.X σ.n).2.1 = 0
  · rw [if_pos h0] at h
    by_cases hex : ∃ r : Nat × Nat × Nat, NextOut (bitsF L c) L (InAll L c) σ.X σ.n 0 r.1 r.2.1 r.2.2
    · have e : nextR L c σ.X σ.n = Classical.choose hex := by unfold nextR; rw [dif_pos hex]
      obtain ⟨h1, h2, h3⟩ := Classical.choose_spec hex
      rw [e] at h0 h
      injection h with h; injection h with h4 h
      subst h4 h
      rcases h3 with ⟨b1, b2, _⟩ | ⟨b0, b2, b3, _⟩ | ⟨b0, b2, b3⟩
      · rw [h0] at b2; cases b2
      · rw [h0] at b3; cases b3
      · exact ⟨by show σ.n - _ < σ.n; omega, b2.1⟩
    · have e : nextR L c σ.X σ.n = (0, 3, 1) := by unfold nextR; rw [dif_neg hex]
      rw [e] at h0
      cases h0
  · rw [if_neg h0] at h
    cases h
theorem tokStep_less {L : Nat → Nat} {c : Nat} {D : Nat → Nat} {d most : Nat} {σ σ' : Sg} {r : Option Tok} (h : tokStep L c D d most σ = .ok (r, σ')) : σ'.n < σ.n := by
  unfold tokStep at h
  obtain ⟨s, σ1, h1, h2⟩ := thenR_inv h
  refine Nat.lt_of_le_of_lt ?_ (symM_less h1).1
  refine (?_ : Up _ σ1) r σ' h2 |>.1
  clear h h2
  split
  · exact Up.ret _ _
  split
  · exact (growM_up _ _ _).then fun _ σ2 => Up.ret _ _
  split
  · exact Up.err _ _
  refine (bitsM_up _ _).then fun b σ2 => (symM_up _ _ _).then fun q σ3 => ?_
  split
  · exact Up.err _ _
  refine (bitsM_up _ _).then fun g σ4 => ?_
  split
  · exact Up.err _ _
  exact (growM_up _ _ _).then fun _ σ5 => Up.ret _ _
theorem lenStep_less {K : Nat → Nat} {σ σ' : Sg} {l r : List Nat} (h : lenStep K σ l = .ok (r, σ')) : σ'.n < σ.n := by
  unfold lenStep at h
  obtain ⟨s, σ1, h1, h2⟩ := thenR_inv h
  refine Nat.lt_of_le_of_lt ?_ (symM_less h1).1
  refine (?_ : Up _ σ1) r σ' h2 |>.1
  clear h h2
  split
  · split
    · exact Up.err _ _
    · exact (bitsM_up _ _).then fun _ _ => Up.ret _ _
  split
  · exact (bitsM_up _ _).then fun _ _ => Up.ret _ _
  split
  · exact (bitsM_up _ _).then fun _ _ => Up.ret _ _
  exact Up.ret _ _
/-- All lengths that are told are lengths. -/
theorem lenStep_15 {K : Nat → Nat} {σ σ' : Sg} {l r : List Nat} (h : lenStep K σ l = .ok (r, σ')) (hl : ∀ y ∈ l, y ≤ 15) : ∀ y ∈ r, y ≤ 15 := by
  unfold lenStep at h
  obtain ⟨s, σ1, h1, h2⟩ := thenR_inv h
  have hs := (symM_less h1).2
  have happ : ∀ (n v : Nat), v ≤ 15 → ∀ y ∈ l ++ List.replicate n v, y ≤ 15 := fun n v hv y hy => by
    rcases List.mem_append.1 hy with hy | hy
    · exact hl y hy
    · rw [List.eq_of_mem_replicate hy]; exact hv
  split at h2
  · split at h2
    · cases h2
    · rename_i hne
      obtain ⟨b, σ2, h3, h4⟩ := thenR_inv h2
      injection h4 with h4; injection h4 with h5 h4; subst h5
      refine happ _ _ ?_
      obtain ⟨x, hx⟩ : ∃ x, l.getLast? = some x := by
        cases h : l.getLast? with
        | none => rw [List.getLast?_eq_none_iff] at h; exact absurd h hne
        | some x => exact ⟨x, rfl⟩
      have hm := List.mem_of_getLast? hx
      rw [List.getLastD_eq_getLast?, hx]
      exact hl x hm
  split at h2
  · obtain ⟨b, σ2, h3, h4⟩ := thenR_inv h2
    injection h4 with h4; injection h4 with h5 h4; subst h5
    exact happ _ _ (by decide)
  split at h2
  · obtain ⟨b, σ2, h3, h4⟩ := thenR_inv h2
    injection h4 with h4; injection h4 with h5 h4; subst h5
    exact happ _ _ (by decide)
  injection h2 with h4; injection h4 with h5 h4; subst h5
  intro y hy
  rcases List.mem_append.1 hy with hy | hy
  · exact hl y hy
  · rw [List.mem_singleton.1 hy]; omega
theorem lenLoop_15 {K : Nat → Nat} {need : Nat} : ∀ (f : Nat) {σ σ' : Sg} {l r : List Nat}, lenLoop K need f σ l = .ok (r, σ') → (∀ y ∈ l, y ≤ 15) → ∀ y ∈ r, y ≤ 15 := by
  intro f
  induction f with
  | zero => intro σ σ' l r h; cases h
  | succ f ih =>
    intro σ σ' l r h hl
    have h' : (if l.length < need then thenR (lenStep K σ l) fun l' σ1 => lenLoop K need f σ1 l' else .ok (l, σ)) = .ok (r, σ') := h
    split at h'
    · obtain ⟨l', σ1, h1, h2⟩ := thenR_inv h'
      exact ih h2 (lenStep_15 h1 hl)
    · injection h' with h'; injection h' with h3 h'; subst h3; exact hl
/-- The first codes' lengths are below eight. -/
theorem firstM_7 : ∀ (r : List Nat) {m m' : Nat → Int} {σ σ' : Sg}, firstM r m σ = .ok (m', σ') → (∀ i, 0 ≤ m i ∧ m i ≤ 7) → ∀ i, 0 ≤ m' i ∧ m' i ≤ 7 := by
  intro r
  induction r with
  | nil => intro m m' σ σ' h hm; injection h with h; injection h with h2 h; subst h2; exact hm
  | cons s r ih =>
    intro m m' σ σ' h hm
    obtain ⟨v, σ1, h1, h2⟩ := thenR_inv (x := bitsM 3 σ) h
    have hv := (bitsM_out h1).2
    refine ih h2 fun i => ?_
    split
    · have : (2 : Nat) ^ 3 = 8 := by decide
      omega
    · exact hm i
theorem dynM_15 {σ σ' : Sg} {r : List Nat × Nat} (h : dynM σ = .ok (r, σ')) : ∀ y ∈ r.1, y ≤ 15 := by
  unfold dynM at h
  obtain ⟨a, σ1, h1, h⟩ := thenR_inv h
  obtain ⟨b, σ2, h2, h⟩ := thenR_inv h
  obtain ⟨c, σ3, h3, h⟩ := thenR_inv h
  split at h
  · cases h
  obtain ⟨m, σ4, h4, h⟩ := thenR_inv h
  obtain ⟨_, σ5, h5, h⟩ := thenR_inv h
  obtain ⟨l, σ6, h6, h⟩ := thenR_inv h
  split at h
  · cases h
  injection h with h; injection h with h7 h; subst h7
  exact lenLoop_15 _ h6 (fun y hy => by cases hy)
theorem lens_15 (m : Nat → Int) (c : Nat) (h : ∀ i, m i ≤ 15) : ∀ i, i < c → lens m i ≤ 15 := fun i _ => by
  unfold lens
  have := h i
  omega
theorem lenF_15 (l : List Nat) (h : ∀ y ∈ l, y ≤ 15) (i : Nat) : lenF l i ≤ 15 := by
  unfold lenF
  rcases Nat.lt_or_ge i l.length with hi | hi
  · have e : l.getD i 0 = l[i] := by simp [List.getD, hi]
    rw [e]
    have := h _ (List.getElem_mem hi)
    omega
  · have e : l.getD i 0 = 0 := by simp [List.getD, hi]
    rw [e]
    decide
section
variable {φ : Sg → Sg} {good : Sg → Prop} {e most most' : Nat}
theorem Way.check (_ : Way φ good e most most') (ok : Prop) [Decidable ok] (k : Nat) (σ : Sg) (h : good σ) : Sim φ good e (checkM ok k σ) (checkM ok k (φ σ)) := by
  unfold checkM
  split
  · exact Sim.ret _ _ h
  · exact Sim.err _ _
theorem Way.tok (W : Way φ good e most most') (L : Nat → Nat) (c : Nat) (D : Nat → Nat) (d : Nat) (hL : ∀ i, i < c → L i ≤ 15) (hD : ∀ i, i < d → D i ≤ 15) (σ : Sg) (h : good σ) :
    Sim φ good e (tokStep L c D d most σ) (tokStep L c D d most' (φ σ)) := by
  unfold tokStep
  refine Sim.then W.mono (W.sym L c σ hL h) (fun s σ1 => ?_) (fun s σ1 _ g1 _ => ?_)
  · split
    · exact Up.ret _ _
    split
    · exact (growM_up _ _ _).then fun _ σ2 => Up.ret _ _
    split
    · exact Up.err _ _
    refine (bitsM_up _ _).then fun b σ2 => (symM_up _ _ _).then fun q σ3 => ?_
    split
    · exact Up.err _ _
    refine (bitsM_up _ _).then fun g σ4 => ?_
    split
    · exact Up.err _ _
    exact (growM_up _ _ _).then fun _ σ5 => Up.ret _ _
  split
  · exact Sim.ret _ _ g1
  split
  · exact Sim.then W.mono (W.grow _ _ g1) (fun _ _ => Up.ret _ _) fun _ σ2 _ g2 _ => Sim.ret _ _ g2
  split
  · exact Sim.err _ _
  refine Sim.then W.mono (W.bits _ _ g1) (fun b σ2 => (symM_up _ _ _).then fun q σ3 => ?_) (fun b σ2 _ g2 _ => ?_)
  · split
    · exact Up.err _ _
    refine (bitsM_up _ _).then fun g σ4 => ?_
    split
    · exact Up.err _ _
    exact (growM_up _ _ _).then fun _ σ5 => Up.ret _ _
  refine Sim.then W.mono (W.sym _ _ _ hD g2) (fun q σ3 => ?_) (fun q σ3 _ g3 _ => ?_)
  · split
    · exact Up.err _ _
    refine (bitsM_up _ _).then fun g σ4 => ?_
    split
    · exact Up.err _ _
    exact (growM_up _ _ _).then fun _ σ5 => Up.ret _ _
  split
  · exact Sim.err _ _
  refine Sim.then W.mono (W.bits _ _ g3) (fun g σ4 => ?_) (fun g σ4 _ g4 _ => ?_)
  · split
    · exact Up.err _ _
    exact (growM_up _ _ _).then fun _ σ5 => Up.ret _ _
  rw [W.out]
  split
  · exact Sim.err _ _
  exact Sim.then W.mono (W.grow _ _ g4) (fun _ _ => Up.ret _ _) fun _ σ5 _ g5 _ => Sim.ret _ _ g5
theorem Way.toks (W : Way φ good e most most') (L : Nat → Nat) (c : Nat) (D : Nat → Nat) (d : Nat) (hL : ∀ i, i < c → L i ≤ 15) (hD : ∀ i, i < d → D i ≤ 15) : ∀ (f f' : Nat) (σ : Sg) (S : List Tok), good σ → (φ σ).n < f' →
    Sim φ good e (tokM L c D d most f σ S) (tokM L c D d most' f' (φ σ) S) := by
  intro f
  induction f with
  | zero => intro f' σ S _ _; exact Sim.err _ _
  | succ f ih =>
    intro f' σ S h hf
    obtain ⟨f', rfl⟩ : ∃ g, f' = g + 1 := ⟨f' - 1, by omega⟩
    show Sim φ good e (thenR _ _) (thenR _ _)
    refine Sim.then W.mono (W.tok L c D d hL hD σ h) (fun t σ1 => ?_) (fun t σ1 _ g1 h1 => ?_)
    · cases t with
      | none => exact Up.ret _ _
      | some t => exact tokM_up _ _ _ _ _ _ _ _
    · cases t with
      | none => exact Sim.ret _ _ g1
      | some t =>
        have := tokStep_less h1
        exact ih f' σ1 _ g1 (by omega)
theorem Way.tokens (W : Way φ good e most most') (m : Nat → Int) (c : Nat) (md : Nat → Int) (d : Nat) (hL : ∀ i, m i ≤ 15) (hD : ∀ i, md i ≤ 15) (σ : Sg) (h : good σ) :
    Sim φ good e (tokensM m c md d most σ) (tokensM m c md d most' (φ σ)) := by
  unfold tokensM
  refine Sim.then W.mono (W.check _ _ _ h) (fun _ _ => (checkM_up _ _ _).then fun _ _ => tokM_up _ _ _ _ _ _ _ _) (fun _ σ1 _ g1 _ => ?_)
  refine Sim.then W.mono (W.check _ _ _ g1) (fun _ _ => tokM_up _ _ _ _ _ _ _ _) (fun _ σ2 _ g2 _ => ?_)
  exact W.toks _ _ _ _ (lens_15 m c hL) (lens_15 md d hD) _ _ _ _ g2 (Nat.lt_succ_self _)
theorem Way.stored (W : Way φ good e most most') (σ : Sg) (h : good σ) : Sim φ good e (storedM most σ) (storedM most' (φ σ)) := by
  rw [storedM_take, storedM_take]
  obtain ⟨e1, g0⟩ := W.even σ h
  rw [← e1]
  refine Sim.then W.mono (W.bits _ _ g0) (fun a σ1 => (bitsM_up _ _).then fun b σ2 => ?_) (fun a σ1 _ g1 _ => ?_)
  · split
    · exact Up.err _ _
    exact (takeM_up _ _).then fun l σ3 => (growM_up _ _ _).then fun _ _ => Up.ret _ _
  refine Sim.then W.mono (W.bits _ _ g1) (fun b σ2 => ?_) (fun b σ2 _ g2 _ => ?_)
  · split
    · exact Up.err _ _
    exact (takeM_up _ _).then fun l σ3 => (growM_up _ _ _).then fun _ _ => Up.ret _ _
  split
  · exact Sim.err _ _
  refine Sim.then W.mono (W.take _ _ g2) (fun l σ3 => (growM_up _ _ _).then fun _ _ => Up.ret _ _) (fun l σ3 _ g3 _ => ?_)
  exact Sim.then W.mono (W.grow _ _ g3) (fun _ _ => Up.ret _ _) fun _ σ4 _ g4 _ => Sim.ret _ _ g4
theorem Way.first (W : Way φ good e most most') : ∀ (r : List Nat) (m : Nat → Int) (σ : Sg), good σ → Sim φ good e (firstM r m σ) (firstM r m (φ σ)) := by
  intro r
  induction r with
  | nil => intro m σ h; exact Sim.ret _ _ h
  | cons s r ih =>
    intro m σ h
    exact Sim.then W.mono (W.bits 3 σ h) (fun v σ1 => firstM_up _ _ _) fun v σ1 _ g1 _ => ih _ _ g1
theorem Way.len (W : Way φ good e most most') (K : Nat → Nat) (hK : ∀ i, i < 19 → K i ≤ 15) (σ : Sg) (l : List Nat) (h : good σ) : Sim φ good e (lenStep K σ l) (lenStep K (φ σ) l) := by
  unfold lenStep
  refine Sim.then W.mono (W.sym K 19 σ hK h) (fun s σ1 => ?_) (fun s σ1 _ g1 _ => ?_)
  · split
    · split
      · exact Up.err _ _
      · exact (bitsM_up _ _).then fun _ _ => Up.ret _ _
    split
    · exact (bitsM_up _ _).then fun _ _ => Up.ret _ _
    split
    · exact (bitsM_up _ _).then fun _ _ => Up.ret _ _
    exact Up.ret _ _
  split
  · split
    · exact Sim.err _ _
    · exact Sim.then W.mono (W.bits _ _ g1) (fun _ _ => Up.ret _ _) fun _ σ2 _ g2 _ => Sim.ret _ _ g2
  split
  · exact Sim.then W.mono (W.bits _ _ g1) (fun _ _ => Up.ret _ _) fun _ σ2 _ g2 _ => Sim.ret _ _ g2
  split
  · exact Sim.then W.mono (W.bits _ _ g1) (fun _ _ => Up.ret _ _) fun _ σ2 _ g2 _ => Sim.ret _ _ g2
  exact Sim.ret _ _ g1
theorem Way.lens (W : Way φ good e most most') (K : Nat → Nat) (hK : ∀ i, i < 19 → K i ≤ 15) (need : Nat) : ∀ (f f' : Nat) (σ : Sg) (l : List Nat), good σ → (φ σ).n < f' → Sim φ good e (lenLoop K need f σ l) (lenLoop K need f' (φ σ) l) := by
  intro f
  induction f with
  | zero => intro f' σ S _ _; exact Sim.err _ _
  | succ f ih =>
    intro f' σ l h hf
    obtain ⟨f', rfl⟩ : ∃ g, f' = g + 1 := ⟨f' - 1, by omega⟩
    show Sim φ good e (if l.length < need then thenR _ _ else _) (if l.length < need then thenR _ _ else _)
    split
    · refine Sim.then W.mono (W.len K hK σ l h) (fun l' σ1 => lenLoop_up _ _ _ _ _) (fun l' σ1 _ g1 h1 => ?_)
      have := lenStep_less h1
      exact ih f' σ1 _ g1 (by omega)
    · exact Sim.ret _ _ h
theorem Way.dyn (W : Way φ good e most most') (σ : Sg) (h : good σ) : Sim φ good e (dynM σ) (dynM (φ σ)) := by
  unfold dynM
  have u3 : ∀ (a b c : Nat) (σ3 : Sg), Up (if 286 < a + 257 ∨ 30 < b + 1 then .error 3
    else thenR (firstM (ordL.take (c + 4)) (fun _ => 0) σ3) fun m σ4 => thenR (fitM m 19 σ4) fun _ σ5 =>
      thenR (lenLoop (_root_.Go.Proofs.Ytjnglahjngiofaa.lens m) (a + 257 + (b + 1)) (σ5.n + 1) σ5 []) fun l σ6 =>
        if a + 257 + (b + 1) < l.length ∨ l.getD 256 0 = 0 then .error 3 else .ok ((l, a + 257), σ6)) σ3 := by
    intro a b c σ3
    split
    · exact Up.err _ _
    refine (firstM_up _ _ _).then fun m σ4 => (checkM_up _ _ _).then fun _ σ5 => (lenLoop_up _ _ _ _ _).then fun l σ6 => ?_
    split
    · exact Up.err _ _
    · exact Up.ret _ _
  refine Sim.then W.mono (W.bits _ _ h) (fun a σ1 => (bitsM_up _ _).then fun b σ2 => (bitsM_up _ _).then fun c σ3 => u3 a b c σ3) (fun a σ1 _ g1 _ => ?_)
  refine Sim.then W.mono (W.bits _ _ g1) (fun b σ2 => (bitsM_up _ _).then fun c σ3 => u3 a b c σ3) (fun b σ2 _ g2 _ => ?_)
  refine Sim.then W.mono (W.bits _ _ g2) (fun c σ3 => u3 a b c σ3) (fun c σ3 _ g3 _ => ?_)
  split
  · exact Sim.err _ _
  have u6 : ∀ (l : List Nat) (σ6 : Sg), Up (if a + 257 + (b + 1) < l.length ∨ l.getD 256 0 = 0 then .error 3 else .ok ((l, a + 257), σ6) : Rs (List Nat × Nat)) σ6 := by
    intro l σ6
    split
    · exact Up.err _ _
    · exact Up.ret _ _
  refine Sim.then W.mono (W.first _ _ _ g3) (fun m σ4 => (checkM_up _ _ _).then fun _ σ5 => (lenLoop_up _ _ _ _ _).then fun l σ6 => u6 l σ6) (fun m σ4 hm g4 _ => ?_)
  refine Sim.then W.mono (W.check _ _ _ g4) (fun _ σ5 => (lenLoop_up _ _ _ _ _).then fun l σ6 => u6 l σ6) (fun _ σ5 _ g5 _ => ?_)
  have h7 := firstM_7 _ hm (fun i => ⟨Int.le_refl 0, by decide⟩)
  refine Sim.then W.mono (W.lens _ (lens_15 m 19 fun i => by have := (h7 i).2; omega) _ _ _ _ _ g5 (Nat.lt_succ_self _)) (fun l σ6 => u6 l σ6) (fun l σ6 _ g6 _ => ?_)
  split
  · exact Sim.err _ _
  · exact Sim.ret _ _ g6
theorem fixL_15 (i : Nat) : fixL i ≤ 15 := by
  unfold fixL
  split
  · decide
  split
  · decide
  split <;> decide
theorem Way.block (W : Way φ good e most most') (σ : Sg) (h : good σ) : Sim φ good e (blockM most σ) (blockM most' (φ σ)) := by
  unfold blockM
  have u2 : ∀ (last k : Nat) (σ2 : Sg), Up (if k = 0 then thenR (storedM most σ2) fun s σ3 => .ok ((last, (⟨0, s, []⟩ : Bk)), σ3)
    else if k = 1 then thenR (tokensM fixL 288 (fun _ => 5) 32 most σ2) fun S σ3 => .ok ((last, ⟨1, [], S⟩), σ3)
    else if k = 2 then thenR (dynM σ2) fun l σ3 => thenR (tokensM (lenF (l.1.take l.2)) l.2 (lenF (l.1.drop l.2)) (l.1.length - l.2) most σ3) fun S σ4 => .ok ((last, ⟨2, [], S⟩), σ4)
    else .error 3) σ2 := by
    intro last k σ2
    split
    · exact (storedM_up _ _).then fun _ _ => Up.ret _ _
    split
    · exact (tokensM_up _ _ _ _ _ _).then fun _ _ => Up.ret _ _
    split
    · exact (dynM_up _).then fun _ _ => (tokensM_up _ _ _ _ _ _).then fun _ _ => Up.ret _ _
    exact Up.err _ _
  refine Sim.then W.mono (W.bits _ _ h) (fun last σ1 => (bitsM_up _ _).then fun k σ2 => u2 last k σ2) (fun last σ1 _ g1 _ => ?_)
  refine Sim.then W.mono (W.bits _ _ g1) (fun k σ2 => u2 last k σ2) (fun k σ2 _ g2 _ => ?_)
  split
  · exact Sim.then W.mono (W.stored _ g2) (fun _ _ => Up.ret _ _) fun _ _ _ g3 _ => Sim.ret _ _ g3
  split
  · exact Sim.then W.mono (W.tokens _ _ _ _ fixL_15 (fun _ => by decide) _ g2) (fun _ _ => Up.ret _ _) fun _ _ _ g3 _ => Sim.ret _ _ g3
  split
  · refine Sim.then W.mono (W.dyn _ g2) (fun _ _ => (tokensM_up _ _ _ _ _ _).then fun _ _ => Up.ret _ _) fun l σ3 hl g3 _ => ?_
    have h15 := dynM_15 hl
    exact Sim.then W.mono (W.tokens _ _ _ _ (lenF_15 _ fun y hy => h15 y (List.mem_of_mem_take hy)) (lenF_15 _ fun y hy => h15 y (List.mem_of_mem_drop hy)) _ g3) (fun _ _ => Up.ret _ _) fun _ _ _ g4 _ => Sim.ret _ _ g4
  exact Sim.err _ _
theorem bitsM_less {k : Nat} {σ σ' : Sg} {a : Nat} (h : bitsM (k + 1) σ = .ok (a, σ')) : σ'.n < σ.n := by
  unfold bitsM at h
  split at h
  · cases h
  · injection h with h; injection h with _ h; subst h; show σ.n - (k + 1) < σ.n; omega
theorem blockM_less {most : Nat} {σ σ' : Sg} {r : Nat × Bk} (h : blockM most σ = .ok (r, σ')) : σ'.n < σ.n := by
  unfold blockM at h
  obtain ⟨last, σ1, h1, h2⟩ := thenR_inv h
  refine Nat.lt_of_le_of_lt ?_ (bitsM_less h1)
  refine (?_ : Up _ σ1) r σ' h2 |>.1
  clear h h2
  refine (bitsM_up _ _).then fun k σ2 => ?_
  split
  · exact (storedM_up _ _).then fun _ _ => Up.ret _ _
  split
  · exact (tokensM_up _ _ _ _ _ _).then fun _ _ => Up.ret _ _
  split
  · exact (dynM_up _).then fun _ _ => (tokensM_up _ _ _ _ _ _).then fun _ _ => Up.ret _ _
  exact Up.err _ _
theorem Way.blocks (W : Way φ good e most most') : ∀ (f f' : Nat) (σ : Sg) (S : List Bk), good σ → (φ σ).n < f' → Sim φ good e (blocksM most f σ S) (blocksM most' f' (φ σ) S) := by
  intro f
  induction f with
  | zero => intro f' σ S _ _; exact Sim.err _ _
  | succ f ih =>
    intro f' σ S h hf
    obtain ⟨f', rfl⟩ : ∃ g, f' = g + 1 := ⟨f' - 1, by omega⟩
    show Sim φ good e (thenR _ _) (thenR _ _)
    refine Sim.then W.mono (W.block σ h) (fun t σ1 => ?_) (fun t σ1 _ g1 h1 => ?_)
    · split
      · exact blocksM_up _ _ _ _
      · exact Up.ret _ _
    · split
      · have := blockM_less h1
        exact ih f' σ1 _ g1 (by omega)
      · exact Sim.ret _ _ g1
end
end Go.Proofs.Ytjnglahjngiofaa
namespace Go.Proofs.Ytjnglahjngiofaa
open Go.RowKit

theorem symM_inv {L : Nat → Nat} {c : Nat} {σ σ' : Sg} {a : Nat} (h : symM L c σ = .ok (a, σ')) : ∃ t, NextOut (bitsF L c) L (InAll L c) σ.X σ.n 0 a 0 t ∧ t ≤ σ.n ∧ σ' = ⟨σ.X / 2 ^ t, σ.n - t, σ.out⟩ := by
  classical
  unfold symM at h
  by_cases h0 : (nextR L c σ.X σ.n).2.1 = 0
  · rw [if_pos h0] at h
    by_cases hex : ∃ r : Nat × Nat × Nat, NextOut (bitsF L c) L (InAll L c) σ.X σ.n 0 r.1 r.2.1 r.2.2
    · have e : nextR L c σ.X σ.n = Classical.choose hex := by unfold nextR; rw [dif_pos hex]
      have hs := Classical.choose_spec hex
      rw [e] at h0 h
      rw [h0] at hs
      injection h with h; injection h with h4 h
      refine ⟨_, h4 ▸ hs, ?_, h.symm⟩
      obtain ⟨_, _, ⟨_, b2, _⟩ | ⟨_, _, b3, _⟩ | ⟨b0, _⟩⟩ := hs
      · cases b2
      · cases b3
      · omega
    · have e : nextR L c σ.X σ.n = (0, 3, 1) := by unfold nextR; rw [dif_neg hex]
      rw [e] at h0
      cases h0
  · rw [if_neg h0] at h
    cases h
theorem symM_ok {L : Nat → Nat} {c : Nat} (h15 : ∀ i, i < c → L i ≤ 15) {σ : Sg} {a t : Nat} (h : NextOut (bitsF L c) L (InAll L c) σ.X σ.n 0 a 0 t) : symM L c σ = .ok (a, ⟨σ.X / 2 ^ t, σ.n - t, σ.out⟩) := by
  unfold symM
  rw [nextR_of L c h15 h]
  rfl
theorem symM_error {L : Nat → Nat} {c : Nat} (h15 : ∀ i, i < c → L i ≤ 15) {σ : Sg} {a e t : Nat} (he : e ≠ 0) (h : NextOut (bitsF L c) L (InAll L c) σ.X σ.n 0 a e t) : symM L c σ = .error e := by
  unfold symM
  rw [nextR_of L c h15 h, if_neg he]
/-- A symbol depends on the bits that it has alone. -/
theorem NextOut.like {F L : Nat → Nat} {In : Nat → Prop} {X X' nb nb' s t r : Nat} (h : NextOut F L In X nb 0 s 0 t) (hr : t ≤ r) (hn : t ≤ nb') (hX : X' % 2 ^ r = X % 2 ^ r) : NextOut F L In X' nb' 0 s 0 t := by
  have hrev : ∀ m, m ≤ t → rev X' m = rev X m := fun m hm => by rw [← rev_mod X' m r (by omega), hX, rev_mod X m r (by omega)]
  obtain ⟨h1, h2, h3⟩ := h
  refine ⟨h1, fun m a b => ?_, ?_⟩
  · rw [hrev m (by omega)]
    exact ⟨by omega, (h2 m a b).2⟩
  · rcases h3 with ⟨_, b2, _⟩ | ⟨_, _, b3, _⟩ | ⟨b0, b2, b3, b4, b5⟩
    · cases b2
    · cases b3
    · exact .inr (.inr ⟨by omega, b2, b3, by rw [hrev t (Nat.le_refl _)]; exact b4, rfl⟩)
theorem NextOut.short {F L : Nat → Nat} {In : Nat → Prop} {X X' nb nb' s t : Nat} (h : NextOut F L In X nb 0 s 0 t) (hn : nb' < t) (hX : X' % 2 ^ nb' = X % 2 ^ nb') : NextOut F L In X' nb' 0 0 6 (nb' + 1) := by
  have hrev : ∀ m, m ≤ nb' → rev X' m = rev X m := fun m hm => by rw [← rev_mod X' m nb' hm, hX, rev_mod X m nb' hm]
  obtain ⟨h1, h2, h3⟩ := h
  refine ⟨by omega, fun m a b => ?_, .inl ⟨by omega, rfl, rfl⟩⟩
  rw [hrev m (by omega)]
  exact ⟨by omega, (h2 m a (by omega)).2⟩
theorem bytesX_mod (k : Nat) : ∀ X r, 8 * k ≤ r → bytesX (X % 2 ^ r) k = bytesX X k := by
  induction k with
  | zero => intro X r _; rfl
  | succ k ih =>
    intro X r hr
    obtain ⟨q, rfl⟩ : ∃ q, r = 8 + q := ⟨r - 8, by omega⟩
    have e1 : X % 2 ^ (8 + q) % 256 = X % 256 := by
      rw [Nat.pow_add]
      exact Nat.mod_mod_of_dvd _ ⟨2 ^ q, rfl⟩
    have e2 : X % 2 ^ (8 + q) / 256 = X / 256 % 2 ^ q := by
      rw [Nat.pow_add, show (2 : Nat) ^ 8 = 256 by decide, Nat.mod_mul_right_div_self]
    show UInt8.ofNat (X % 2 ^ (8 + q) % 256) :: bytesX (X % 2 ^ (8 + q) / 256) k = UInt8.ofNat (X % 256) :: bytesX (X / 256) k
    rw [e1, e2, ih _ _ (by omega)]
theorem bytesX_like {X X' k r : Nat} (hr : 8 * k ≤ r) (hX : X' % 2 ^ r = X % 2 ^ r) : bytesX X' k = bytesX X k := by rw [← bytesX_mod k X' r hr, hX, bytesX_mod k X r hr]

/-- More behind it. -/
def extS (m Y : Nat) (σ : Sg) : Sg := ⟨σ.X + 2 ^ σ.n * Y, σ.n + m, σ.out⟩
theorem ext_div (X n Y k : Nat) (h : k ≤ n) : (X + 2 ^ n * Y) / 2 ^ k = X / 2 ^ k + 2 ^ (n - k) * Y := by
  have e : 2 ^ n * Y = 2 ^ k * (2 ^ (n - k) * Y) := by rw [← Nat.mul_assoc, ← Nat.pow_add, show k + (n - k) = n by omega]
  rw [e, Nat.add_mul_div_left _ _ (Nat.two_pow_pos k)]
theorem ext_mod (X n Y k : Nat) (h : k ≤ n) : (X + 2 ^ n * Y) % 2 ^ k = X % 2 ^ k := by
  have e : 2 ^ n * Y = 2 ^ k * (2 ^ (n - k) * Y) := by rw [← Nat.mul_assoc, ← Nat.pow_add, show k + (n - k) = n by omega]
  rw [e, Nat.add_mul_mod_self_left]
theorem way_ext (j Y most : Nat) : Way (extS (8 * j) Y) (fun _ => True) 0 most most where
  mono _ _ _ _ _ := trivial
  bits k σ _ a σ1 h := by
    unfold bitsM at h
    by_cases hk : σ.n < k
    · rw [if_pos hk] at h; cases h
    · rw [if_neg hk] at h
      injection h with h; injection h with h1 h; subst h; subst h1
      refine .inl ⟨trivial, ?_⟩
      unfold bitsM extS
      rw [if_neg (by show ¬ σ.n + 8 * j < k; omega)]
      show Except.ok ((σ.X + 2 ^ σ.n * Y) % 2 ^ k, (⟨(σ.X + 2 ^ σ.n * Y) / 2 ^ k, σ.n + 8 * j - k, σ.out⟩ : Sg)) = _
      rw [ext_div _ _ _ _ (by omega), ext_mod _ _ _ _ (by omega), show σ.n + 8 * j - k = σ.n - k + 8 * j by omega]
  sym L c σ h15 _ a σ1 h := by
    obtain ⟨t, h1, h2, rfl⟩ := symM_inv h
    refine .inl ⟨trivial, ?_⟩
    rw [symM_ok h15 (σ := extS (8 * j) Y σ) (h1.like (r := σ.n) h2 (by show t ≤ σ.n + 8 * j; omega) (ext_mod _ _ _ _ (Nat.le_refl _)))]
    unfold extS
    show Except.ok (a, (⟨(σ.X + 2 ^ σ.n * Y) / 2 ^ t, σ.n + 8 * j - t, σ.out⟩ : Sg)) = _
    rw [ext_div _ _ _ _ h2, show σ.n + 8 * j - t = σ.n - t + 8 * j by omega]
  grow k σ _ a σ1 h := by
    unfold growM at h
    by_cases hk : most < σ.out + k
    · rw [if_pos hk] at h; cases h
    · rw [if_neg hk] at h
      injection h with h; injection h with h1 h; subst h; subst h1
      refine .inl ⟨trivial, ?_⟩
      unfold growM extS
      rw [if_neg hk]
  out _ := rfl
  even σ _ := by
    refine ⟨?_, trivial⟩
    unfold evenM extS
    dsimp only
    rw [show (σ.n + 8 * j) % 8 = σ.n % 8 by omega, ext_div _ _ _ _ (Nat.mod_le _ _), show σ.n - σ.n % 8 + 8 * j = σ.n + 8 * j - σ.n % 8 by omega]
  take k σ _ a σ1 h := by
    unfold takeM at h
    by_cases hk : σ.n < 8 * k
    · rw [if_pos hk] at h; cases h
    · rw [if_neg hk] at h
      injection h with h; injection h with h1 h; subst h; subst h1
      refine .inl ⟨trivial, ?_⟩
      unfold takeM extS
      rw [if_neg (by show ¬ σ.n + 8 * j < 8 * k; omega)]
      show Except.ok (bytesX (σ.X + 2 ^ σ.n * Y) k, (⟨(σ.X + 2 ^ σ.n * Y) / 2 ^ (8 * k), σ.n + 8 * j - 8 * k, σ.out⟩ : Sg)) = _
      rw [ext_div _ _ _ _ (by omega), bytesX_like (X := σ.X) (r := σ.n) (by omega) (ext_mod _ _ _ _ (Nat.le_refl _)), show σ.n + 8 * j - 8 * k = σ.n - 8 * k + 8 * j by omega]

/-- Cut. -/
def cutS (m : Nat) (σ : Sg) : Sg := ⟨σ.X % 2 ^ (σ.n - m), σ.n - m, σ.out⟩
theorem cut_div (X r k : Nat) (h : k ≤ r) : X % 2 ^ r / 2 ^ k = X / 2 ^ k % 2 ^ (r - k) := by
  obtain ⟨q, rfl⟩ : ∃ q, r = k + q := ⟨r - k, by omega⟩
  rw [Nat.pow_add, Nat.mod_mul_right_div_self, show k + q - k = q by omega]
theorem cut_mod (X r k : Nat) (h : k ≤ r) : X % 2 ^ r % 2 ^ k = X % 2 ^ k := Nat.mod_mod_of_dvd _ (Nat.pow_dvd_pow 2 h)
theorem way_cut (j most : Nat) : Way (cutS (8 * j)) (fun σ => 8 * j ≤ σ.n) 6 most most where
  mono _ _ h1 h2 _ := Nat.le_trans h1 h2
  bits k σ hg a σ1 h := by
    unfold bitsM at h
    by_cases hk : σ.n < k
    · rw [if_pos hk] at h; cases h
    · rw [if_neg hk] at h
      injection h with h; injection h with h1 h; subst h; subst h1
      by_cases hc : 8 * j ≤ σ.n - k
      · refine .inl ⟨hc, ?_⟩
        unfold bitsM cutS
        rw [if_neg (by show ¬ σ.n - 8 * j < k; omega)]
        show Except.ok (σ.X % 2 ^ (σ.n - 8 * j) % 2 ^ k, (⟨σ.X % 2 ^ (σ.n - 8 * j) / 2 ^ k, σ.n - 8 * j - k, σ.out⟩ : Sg)) = _
        rw [cut_div _ _ _ (by omega), cut_mod _ _ _ (by omega), show σ.n - 8 * j - k = σ.n - k - 8 * j by omega]
      · refine .inr ⟨hc, ?_⟩
        unfold bitsM cutS
        rw [if_pos (by show σ.n - 8 * j < k; omega)]
  sym L c σ h15 hg a σ1 h := by
    obtain ⟨t, h1, h2, rfl⟩ := symM_inv h
    by_cases hc : 8 * j ≤ σ.n - t
    · refine .inl ⟨hc, ?_⟩
      rw [symM_ok h15 (σ := cutS (8 * j) σ) (h1.like (r := σ.n - 8 * j) (by omega) (by show t ≤ σ.n - 8 * j; omega) (cut_mod _ _ _ (Nat.le_refl _)))]
      unfold cutS
      show Except.ok (a, (⟨σ.X % 2 ^ (σ.n - 8 * j) / 2 ^ t, σ.n - 8 * j - t, σ.out⟩ : Sg)) = _
      rw [cut_div _ _ _ (by omega), show σ.n - 8 * j - t = σ.n - t - 8 * j by omega]
    · refine .inr ⟨hc, ?_⟩
      exact symM_error h15 (σ := cutS (8 * j) σ) (by decide) (h1.short (nb' := σ.n - 8 * j) (by omega) (cut_mod _ _ _ (Nat.le_refl _)))
  grow k σ hg a σ1 h := by
    unfold growM at h
    by_cases hk : most < σ.out + k
    · rw [if_pos hk] at h; cases h
    · rw [if_neg hk] at h
      injection h with h; injection h with h1 h; subst h; subst h1
      refine .inl ⟨hg, ?_⟩
      unfold growM cutS
      rw [if_neg hk]
  out _ := rfl
  even σ hg := by
    unfold evenM cutS
    dsimp only
    refine ⟨?_, by omega⟩
    rw [show (σ.n - 8 * j) % 8 = σ.n % 8 by omega, cut_div _ _ _ (by omega), show σ.n - σ.n % 8 - 8 * j = σ.n - 8 * j - σ.n % 8 by omega]
  take k σ hg a σ1 h := by
    unfold takeM at h
    by_cases hk : σ.n < 8 * k
    · rw [if_pos hk] at h; cases h
    · rw [if_neg hk] at h
      injection h with h; injection h with h1 h; subst h; subst h1
      by_cases hc : 8 * j ≤ σ.n - 8 * k
      · refine .inl ⟨hc, ?_⟩
        unfold takeM cutS
        rw [if_neg (by show ¬ σ.n - 8 * j < 8 * k; omega)]
        show Except.ok (bytesX (σ.X % 2 ^ (σ.n - 8 * j)) k, (⟨σ.X % 2 ^ (σ.n - 8 * j) / 2 ^ (8 * k), σ.n - 8 * j - 8 * k, σ.out⟩ : Sg)) = _
        rw [cut_div _ _ _ (by omega), bytesX_mod _ _ _ (by omega), show σ.n - 8 * j - 8 * k = σ.n - 8 * k - 8 * j by omega]
      · refine .inr ⟨hc, ?_⟩
        unfold takeM cutS
        rw [if_pos (by show σ.n - 8 * j < 8 * k; omega)]

/-- Another limit. -/
theorem way_less (most most' : Nat) : Way id (fun σ => σ.out ≤ most') 2 most most' where
  mono _ _ h1 _ h2 := Nat.le_trans h2 h1
  bits k σ hg a σ1 h := .inl ⟨by show σ1.out ≤ most'; rw [(bitsM_out h).1]; exact hg, h⟩
  sym L c σ _ hg a σ1 h := .inl ⟨by show σ1.out ≤ most'; rw [symM_out h]; exact hg, h⟩
  grow k σ hg a σ1 h := by
    unfold growM at h
    by_cases hk : most < σ.out + k
    · rw [if_pos hk] at h; cases h
    · rw [if_neg hk] at h
      injection h with h; injection h with h1 h; subst h; subst h1
      by_cases hc : σ.out + k ≤ most'
      · refine .inl ⟨hc, ?_⟩
        unfold growM
        rw [if_neg (by show ¬ most' < σ.out + k; omega)]
        rfl
      · refine .inr ⟨hc, ?_⟩
        unfold growM
        rw [if_pos (by show most' < σ.out + k; omega)]
  out _ := rfl
  even σ hg := ⟨rfl, hg⟩
  take k σ hg a σ1 h := .inl ⟨by
    unfold takeM at h
    split at h
    · cases h
    · injection h with h; injection h with _ h; subst h; exact hg, h⟩

/-- The blocks of a text. -/
noncomputable def inflR (u : ByteArray) (most : Nat) : Rs (List Bk) := blocksM most (8 * u.size + 1) (sg u 0 0) []
theorem num_append (u v : ByteArray) : num (u ++ v) = num u + 2 ^ (8 * u.size) * num v := by
  unfold num
  have e : (u ++ v).data.toList = u.data.toList ++ v.data.toList := by simp
  rw [e, leN_append, Nat.mul_comm, ← pow256]
  simp
theorem num_cut (u : ByteArray) (k : Nat) (hk : k ≤ u.size) : num (u.extract 0 k) = num u % 2 ^ (8 * k) := by
  have e : u.data.toList = (u.data.toList).take k ++ (u.data.toList).drop k := (List.take_append_drop k _).symm
  have e2 : (u.extract 0 k).data.toList = (u.data.toList).take k := by
    rw [extract_list]
    simp
  unfold num
  rw [e2]
  have hl : ((u.data.toList).take k).length = k := by rw [List.length_take]; have : u.data.toList.length = u.size := by simp
                                                      omega
  have h3 := leN_append ((u.data.toList).take k) ((u.data.toList).drop k)
  rw [← e, hl, pow256] at h3
  have h4 := leN_lt ((u.data.toList).take k)
  rw [hl, pow256] at h4
  rw [h3, Nat.add_mul_mod_self_right, Nat.mod_eq_of_lt h4]
theorem infl_ext {u : ByteArray} {most : Nat} {bs : List Bk} {σ : Sg} (h : inflR u most = .ok (bs, σ)) (v : ByteArray) : inflR (u ++ v) most = .ok (bs, extS (8 * v.size) (num v) σ) := by
  have hs : (u ++ v).size = u.size + v.size := ByteArray.size_append
  have e : extS (8 * v.size) (num v) (sg u 0 0) = sg (u ++ v) 0 0 := by
    unfold extS sg
    rw [num_append, hs]
    simp
    omega
  have := (way_ext v.size (num v) most).blocks (8 * u.size + 1) (8 * (u ++ v).size + 1) (sg u 0 0) [] trivial (by rw [e]; exact Nat.lt_succ_self _) bs σ h
  rw [e] at this
  rcases this with ⟨_, h⟩ | ⟨h, _⟩
  · exact h
  · exact absurd trivial h
theorem infl_cut {u : ByteArray} {most : Nat} {bs : List Bk} {σ : Sg} (h : inflR u most = .ok (bs, σ)) (k : Nat) (hk : k ≤ u.size) (hn : σ.n < 8 * (u.size - k)) : inflR (u.extract 0 k) most = .error 6 := by
  have hs : (u.extract 0 k).size = k := by rw [ByteArray.size_extract]; omega
  have e : cutS (8 * (u.size - k)) (sg u 0 0) = sg (u.extract 0 k) 0 0 := by
    unfold cutS sg
    rw [num_cut u k hk, hs]
    simp
    refine ⟨?_, by omega⟩
    congr 2
    omega
  have := (way_cut (u.size - k) most).blocks (8 * u.size + 1) (8 * (u.extract 0 k).size + 1) (sg u 0 0) [] (by show 8 * (u.size - k) ≤ 8 * u.size - 0; omega) (by rw [e]; exact Nat.lt_succ_self _) bs σ h
  rw [e] at this
  rcases this with ⟨h, _⟩ | ⟨_, h⟩
  · exact absurd h (by omega)
  · exact h
theorem infl_less {u : ByteArray} {most most' : Nat} {bs : List Bk} {σ : Sg} (h : inflR u most = .ok (bs, σ)) : (σ.out ≤ most' ∧ inflR u most' = .ok (bs, σ)) ∨ (most' < σ.out ∧ inflR u most' = .error 2) := by
  have := (way_less most most').blocks (8 * u.size + 1) (8 * u.size + 1) (sg u 0 0) [] (Nat.zero_le _) (Nat.lt_succ_self _) bs σ h
  rcases this with h | ⟨h1, h2⟩
  · exact .inl h
  · exact .inr ⟨by omega, h2⟩
theorem infl_out {u : ByteArray} {most : Nat} {bs : List Bk} {σ : Sg} (h : inflR u most = .ok (bs, σ)) : blksOK 0 bs ∧ σ.out = blenS bs ∧ σ.out ≤ most ∧ (joinL [] bs).length = σ.out := by
  obtain ⟨c, h1, h2, h3, h4⟩ := blocksM_ok _ h (Nat.zero_le _)
  rw [List.nil_append] at h1
  subst h1
  have h5 : σ.out = blenS bs := by rw [h3]; exact Nat.zero_add _
  exact ⟨h2, h5, h4, by rw [joinL_len, h5]; exact Nat.zero_add _⟩
theorem blocksM_count {most : Nat} : ∀ (f : Nat) {σ σ' : Sg} {bs bs' : List Bk}, blocksM most f σ bs = .ok (bs', σ') → bs'.length + σ'.n ≤ bs.length + σ.n := by
  intro f
  induction f with
  | zero => intro σ σ' bs bs' h; cases h
  | succ f ih =>
    intro σ σ' bs bs' h
    obtain ⟨r, σ1, h1, h⟩ := thenR_inv (x := blockM most σ) h
    have hl := blockM_less h1
    split at h
    · have := ih h
      rw [List.length_append] at this
      have e : [r.2].length = 1 := rfl
      omega
    · injection h with h; injection h with h2 h; subst h; subst h2
      rw [List.length_append]
      have e : [r.2].length = 1 := rfl
      omega
theorem toks_count (S : List Tok) : ∀ n, toksOK n S → S.length ≤ tlenS S := by
  induction S with
  | nil => intro n _; exact Nat.le_refl _
  | cons t r ih =>
    intro n h
    have h1 := ih _ h.2
    have h2 : 1 ≤ tlen t := by
      unfold tlen
      split
      · exact Nat.le_refl _
      · rcases h.1 with h | ⟨h, _⟩
        · contradiction
        · omega
    show r.length + 1 ≤ tlen t + tlenS r
    omega
theorem blks_count (bs : List Bk) : ∀ n, blksOK n bs → ∀ b ∈ bs, b.toks.length ≤ blenS bs := by
  induction bs with
  | nil => intro n _ b hb; cases hb
  | cons x r ih =>
    intro n h b hb
    show _ ≤ (x.bytes.length + tlenS x.toks) + blenS r
    rcases List.mem_cons.1 hb with rfl | hb
    · have := toks_count _ _ h.1
      omega
    · have := ih _ h.2 b hb
      omega
end Go.Proofs.Ytjnglahjngiofaa
namespace Go.Proofs.Ytjnglahjngiofaa
open Go.RowKit
set_option maxRecDepth 100000

theorem rev_div (X : Nat) (d : Nat) : ∀ m, rev X (m + d) / 2 ^ d = rev X m := by
  induction d with
  | zero => intro m; simp
  | succ d ih =>
    intro m
    have e : rev X (m + (d + 1)) = 2 * rev X (m + d) + X / 2 ^ (m + d) % 2 := rfl
    have e2 : (2 : Nat) ^ (d + 1) = 2 * 2 ^ d := by rw [Nat.pow_succ, Nat.mul_comm]
    rw [e, e2, ← Nat.div_div_eq_div_mul, show (2 * rev X (m + d) + X / 2 ^ (m + d) % 2) / 2 = rev X (m + d) by omega]
    exact ih m
/-- What is the code of a symbol is read as it. -/
theorem next_code {F L : Nat → Nat} {In : Nat → Prop} {X nb s t : Nat} (hs : In s) (ht : L s = t) (h1 : 1 ≤ t) (hn : t ≤ nb) (hF : F s = rev X t) : NextOut F L In X nb 0 s 0 t := by
  refine ⟨h1, fun m a b => ⟨by omega, s, hs, ⟨by omega, ?_⟩, by omega⟩, .inr (.inr ⟨by omega, hs, ht, hF, rfl⟩)⟩
  obtain ⟨d, rfl⟩ : ∃ d, t = m + d := ⟨t - m, by omega⟩
  rw [hF, ht, show m + d - m = d by omega, rev_div]
theorem symM_code {L : Nat → Nat} {c : Nat} (h15 : ∀ i, i < c → L i ≤ 15) {σ : Sg} {s t : Nat} (hs : s < c) (ht : L s = t) (h1 : 1 ≤ t) (hn : t ≤ σ.n) (hF : bitsF L c s = rev σ.X t) : symM L c σ = .ok (s, ⟨σ.X / 2 ^ t, σ.n - t, σ.out⟩) :=
  symM_ok h15 (next_code ⟨hs, by omega⟩ ht h1 hn hF)
theorem fix15 : ∀ i, i < 288 → lens fixL i ≤ 15 := lens_15 _ _ fixL_15
theorem five15 : ∀ i, i < 32 → lens (fun _ => 5) i ≤ 15 := lens_15 _ _ fun _ => by decide
theorem fit_fix (σ : Sg) : fitM fixL 288 σ = .ok ((), σ) := by
  unfold fitM checkM
  rw [if_pos (by decide +kernel)]
theorem fit_five (σ : Sg) : fitM (fun _ => 5) 32 σ = .ok ((), σ) := by
  unfold fitM checkM
  rw [if_pos (by decide +kernel)]
theorem tokensM_fix (most : Nat) (σ : Sg) : tokensM fixL 288 (fun _ => 5) 32 most σ = tokM (lens fixL) 288 (lens fun _ => 5) 32 most (σ.n + 1) σ [] := by
  unfold tokensM
  rw [fit_fix, thenR_ok, fit_five, thenR_ok]
theorem code_97 : bitsF (lens fixL) 288 97 = 145 := by decide +kernel
theorem code_0 : bitsF (lens fixL) 288 0 = 48 := by decide +kernel
theorem code_256 : bitsF (lens fixL) 288 256 = 0 := by decide +kernel
theorem code_285 : bitsF (lens fixL) 288 285 = 197 := by decide +kernel
theorem code_d0 : bitsF (lens fun _ => 5) 32 0 = 0 := by decide +kernel

theorem infl_a : inflR ⟨#[75, 4, 0]⟩ 9 = .ok ([⟨1, [], [⟨97, 0, 0⟩]⟩], ⟨0, 6, 1⟩) := by
  have hn : num ⟨#[75, 4, 0]⟩ = 1099 := by decide +kernel
  have e0 : sg ⟨#[75, 4, 0]⟩ 0 0 = ⟨1099, 24, 0⟩ := by unfold sg; rw [hn]; rfl
  have h1 : symM (lens fixL) 288 ⟨137, 21, 0⟩ = .ok (97, ⟨0, 13, 0⟩) := symM_code fix15 (by decide) (t := 8) rfl (by decide) (by decide) (by rw [code_97]; decide)
  have h2 : symM (lens fixL) 288 ⟨0, 13, 1⟩ = .ok (256, ⟨0, 6, 1⟩) := symM_code fix15 (by decide) (t := 7) rfl (by decide) (by decide) (by rw [code_256]; decide)
  have s1 : tokStep (lens fixL) 288 (lens fun _ => 5) 32 9 ⟨137, 21, 0⟩ = .ok (some ⟨97, 0, 0⟩, ⟨0, 13, 1⟩) := by
    unfold tokStep
    rw [h1, thenR_ok]
    rfl
  have s2 : tokStep (lens fixL) 288 (lens fun _ => 5) 32 9 ⟨0, 13, 1⟩ = .ok (none, ⟨0, 6, 1⟩) := by
    unfold tokStep
    rw [h2, thenR_ok]
    rfl
  have ht : tokensM fixL 288 (fun _ => 5) 32 9 ⟨137, 21, 0⟩ = .ok ([⟨97, 0, 0⟩], ⟨0, 6, 1⟩) := by
    rw [tokensM_fix]
    show tokM _ _ _ _ _ (20 + 1 + 1) _ _ = _
    show thenR (tokStep _ _ _ _ _ _) _ = _
    rw [s1, thenR_ok]
    show thenR (tokStep _ _ _ _ _ _) _ = _
    rw [s2, thenR_ok]
    rfl
  have hb : blockM 9 ⟨1099, 24, 0⟩ = .ok ((1, ⟨1, [], [⟨97, 0, 0⟩]⟩), ⟨0, 6, 1⟩) := by
    unfold blockM
    rw [show bitsM 1 ⟨1099, 24, 0⟩ = .ok (1, ⟨549, 23, 0⟩) from rfl, thenR_ok, show bitsM 2 ⟨549, 23, 0⟩ = .ok (1, ⟨137, 21, 0⟩) from rfl, thenR_ok, if_neg (by decide), if_pos rfl, ht]
    rfl
  unfold inflR
  rw [e0]
  show thenR (blockM 9 _) _ = _
  rw [hb]
  rfl
theorem infl_ab : inflR ⟨#[1, 2, 0, 253, 255, 97, 98]⟩ 9 = .ok ([⟨0, [97, 98], []⟩], ⟨0, 0, 2⟩) := by
  have hn : num ⟨#[1, 2, 0, 253, 255, 97, 98]⟩ = 27692299806835201 := by decide +kernel
  have e0 : sg ⟨#[1, 2, 0, 253, 255, 97, 98]⟩ 0 0 = ⟨27692299806835201, 56, 0⟩ := by unfold sg; rw [hn]; rfl
  unfold inflR
  rw [e0]
  rfl
end Go.Proofs.Ytjnglahjngiofaa
