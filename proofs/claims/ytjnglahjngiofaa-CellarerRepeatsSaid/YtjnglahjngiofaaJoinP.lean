/- The text of blocks; what a read stream is. Plain. Conditions: none. -/
import Derived.Test.YtjnglahjngiofaaInfMono
namespace Go.Proofs.Ytjnglahjngiofaa
open Go.RowKit

def tlen (t : Tok) : Nat := if t.l = 0 then 1 else t.l.toNat
theorem tout_len (o : List UInt8) (t : Tok) : (tout o t).length = o.length + tlen t := by
  unfold tout tlen
  split
  · rw [List.length_append]; rfl
  · exact rep_len _ _ _
def joinS (o : List UInt8) (S : List Tok) : List UInt8 := S.foldl tout o
def joinB (o : List UInt8) (b : Bk) : List UInt8 := joinS (o ++ b.bytes) b.toks
def joinL (o : List UInt8) (bs : List Bk) : List UInt8 := bs.foldl joinB o
def tlenS (S : List Tok) : Nat := (S.map tlen).sum
def blen (b : Bk) : Nat := b.bytes.length + tlenS b.toks
def blenS (bs : List Bk) : Nat := (bs.map blen).sum
theorem joinS_len (S : List Tok) : ∀ o, (joinS o S).length = o.length + tlenS S := by
  induction S with
  | nil => intro o; rfl
  | cons t r ih =>
    intro o
    show (joinS (tout o t) r).length = _
    rw [ih, tout_len]
    show _ = o.length + (tlen t + tlenS r)
    omega
theorem joinB_len (o : List UInt8) (b : Bk) : (joinB o b).length = o.length + blen b := by
  unfold joinB blen
  rw [joinS_len, List.length_append]
  omega
theorem joinL_len (bs : List Bk) : ∀ o, (joinL o bs).length = o.length + blenS bs := by
  induction bs with
  | nil => intro o; rfl
  | cons b r ih =>
    intro o
    show (joinL (joinB o b) r).length = _
    rw [ih, joinB_len]
    show _ = o.length + (blen b + blenS r)
    omega
/-- A token that can be told behind n bytes. -/
def tokOK (n : Nat) (t : Tok) : Prop := t.l = 0 ∨ (0 < t.l ∧ t.l ≤ 300 ∧ 1 ≤ t.d ∧ t.d ≤ (n : Int))
def toksOK : Nat → List Tok → Prop
  | _, [] => True
  | n, t :: r => tokOK n t ∧ toksOK (n + tlen t) r
def blksOK : Nat → List Bk → Prop
  | _, [] => True
  | n, b :: r => toksOK (n + b.bytes.length) b.toks ∧ blksOK (n + blen b) r
theorem toksOK_append (S T : List Tok) : ∀ n, toksOK n (S ++ T) ↔ toksOK n S ∧ toksOK (n + tlenS S) T := by
  induction S with
  | nil => intro n; exact ⟨fun h => ⟨trivial, h⟩, fun h => h.2⟩
  | cons t r ih =>
    intro n
    have e : n + tlen t + tlenS r = n + tlenS (t :: r) := by show _ = n + (tlen t + tlenS r); omega
    show tokOK n t ∧ toksOK (n + tlen t) (r ++ T) ↔ (tokOK n t ∧ toksOK (n + tlen t) r) ∧ _
    rw [ih, e, and_assoc]
theorem tlenS_append (S T : List Tok) : tlenS (S ++ T) = tlenS S + tlenS T := by unfold tlenS; rw [List.map_append, List.sum_append]
theorem blksOK_append (S T : List Bk) : ∀ n, blksOK n (S ++ T) ↔ blksOK n S ∧ blksOK (n + blenS S) T := by
  induction S with
  | nil => intro n; exact ⟨fun h => ⟨trivial, h⟩, fun h => h.2⟩
  | cons t r ih =>
    intro n
    have e : n + blen t + blenS r = n + blenS (t :: r) := by show _ = n + (blen t + blenS r); omega
    show _ ∧ blksOK (n + blen t) (r ++ T) ↔ (_ ∧ blksOK (n + blen t) r) ∧ _
    rw [ih, e, and_assoc]
theorem blenS_append (S T : List Bk) : blenS (S ++ T) = blenS S + blenS T := by unfold blenS; rw [List.map_append, List.sum_append]

theorem bitsM_out {k : Nat} {σ σ' : Sg} {a : Nat} (h : bitsM k σ = .ok (a, σ')) : σ'.out = σ.out ∧ a < 2 ^ k := by
  unfold bitsM at h
  split at h
  · cases h
  · injection h with h; injection h with h1 h; subst h; subst h1; exact ⟨rfl, Nat.mod_lt _ (Nat.two_pow_pos k)⟩
theorem symM_out {L : Nat → Nat} {c : Nat} {σ σ' : Sg} {a : Nat} (h : symM L c σ = .ok (a, σ')) : σ'.out = σ.out := by
  unfold symM at h
  split at h
  · injection h with h; injection h with _ h; subst h; rfl
  · cases h
theorem growM_out {most k : Nat} {σ σ' : Sg} {a : Unit} (h : growM most k σ = .ok (a, σ')) : σ'.out = σ.out + k ∧ σ'.out ≤ most := by
  unfold growM at h
  split at h
  · cases h
  · injection h with h; injection h with _ h; subst h; exact ⟨rfl, by show σ.out + k ≤ most; omega⟩
theorem checkM_out {ok : Prop} [Decidable ok] {e : Nat} {σ σ' : Sg} {a : Unit} (h : checkM ok e σ = .ok (a, σ')) : σ' = σ ∧ ok := by
  unfold checkM at h
  split at h
  · injection h with h; injection h with _ h; exact ⟨h.symm, by assumption⟩
  · cases h
theorem near_small (s : Nat) (h1 : ¬ s < 256) (h0 : s ≠ 256) (h2 : ¬ 285 < s) : 3 ≤ (sizeS false ((s : Int) - 257)).1 ∧ (sizeS false ((s : Int) - 257)).1 ≤ 258 ∧ (sizeS false ((s : Int) - 257)).2 ≤ 5 := by
  have e : (s : Int) - 257 = ((s - 257 : Nat) : Int) := by omega
  rw [e]
  have key : ∀ i : Nat, i ≤ 28 → 3 ≤ (sizeS false (i : Int)).1 ∧ (sizeS false (i : Int)).1 ≤ 258 ∧ (sizeS false (i : Int)).2 ≤ 5 := by decide
  exact key _ (by omega)
theorem far_small (q : Nat) (h : ¬ 29 < q) : 1 ≤ (sizeS true (q : Int)).1 := by
  have key : ∀ i : Nat, i ≤ 29 → 1 ≤ (sizeS true (i : Int)).1 := by decide
  exact key q (by omega)
/-- One token that is read can be told, and so much comes out. -/
theorem tokStep_ok {L : Nat → Nat} {c : Nat} {D : Nat → Nat} {d most : Nat} {σ σ' : Sg} {r : Option Tok} (h : tokStep L c D d most σ = .ok (r, σ')) (hm : σ.out ≤ most) :
    σ'.out ≤ most ∧ ((r = none ∧ σ'.out = σ.out) ∨ ∃ t, r = some t ∧ tokOK σ.out t ∧ σ'.out = σ.out + tlen t) := by
  unfold tokStep at h
  obtain ⟨s, σ1, h1, h⟩ := thenR_inv h
  have o1 := symM_out h1
  by_cases h256 : s = 256
  · rw [if_pos h256] at h
    injection h with h; injection h with h2 h; subst h; subst h2
    exact ⟨by omega, .inl ⟨rfl, o1⟩⟩
  rw [if_neg h256] at h
  by_cases hlt : s < 256
  · rw [if_pos hlt] at h
    obtain ⟨u, σ2, h2, h⟩ := thenR_inv h
    have o2 := growM_out h2
    injection h with h; injection h with h3 h; subst h; subst h3
    exact ⟨o2.2, .inr ⟨_, rfl, .inl rfl, by rw [o2.1, o1]; rfl⟩⟩
  rw [if_neg hlt] at h
  by_cases h285 : 285 < s
  · rw [if_pos h285] at h; cases h
  rw [if_neg h285] at h
  obtain ⟨hb3, hb258, hm5⟩ := near_small s hlt h256 h285
  obtain ⟨b, σ2, h2, h⟩ := thenR_inv h
  have o2 := bitsM_out h2
  obtain ⟨q, σ3, h3, h⟩ := thenR_inv h
  have o3 := symM_out h3
  by_cases h29 : 29 < q
  · rw [if_pos h29] at h; cases h
  rw [if_neg h29] at h
  obtain ⟨g, σ4, h4, h⟩ := thenR_inv h
  have o4 := bitsM_out h4
  have hfb := far_small q h29
  have hb32 : b < 32 := Nat.lt_of_lt_of_le o2.2 (Nat.le_trans (Nat.pow_le_pow_right (by decide) hm5) (by decide))
  by_cases hd : σ4.out < (sizeS true (q : Int)).1 + g
  · rw [if_pos hd] at h; cases h
  rw [if_neg hd] at h
  obtain ⟨u, σ5, h5, h⟩ := thenR_inv h
  have o5 := growM_out h5
  injection h with h; injection h with h6 h; subst h; subst h6
  have hpos : ¬ ((((sizeS false ((s : Int) - 257)).1 + b : Nat) : Int) = 0) := by omega
  refine ⟨o5.2, .inr ⟨_, rfl, .inr ⟨?_, ?_, ?_, ?_⟩, ?_⟩⟩
  · show (0 : Int) < (((sizeS false ((s : Int) - 257)).1 + b : Nat) : Int); omega
  · show (((sizeS false ((s : Int) - 257)).1 + b : Nat) : Int) ≤ 300; omega
  · show (1 : Int) ≤ (((sizeS true (q : Int)).1 + g : Nat) : Int); omega
  · show (((sizeS true (q : Int)).1 + g : Nat) : Int) ≤ (σ.out : Int); omega
  · rw [o5.1]
    unfold tlen
    rw [if_neg hpos]
    show σ4.out + _ = σ.out + (((sizeS false ((s : Int) - 257)).1 + b : Nat) : Int).toNat
    rw [Int.toNat_natCast]
    omega
theorem tokM_ok {L : Nat → Nat} {c : Nat} {D : Nat → Nat} {d most : Nat} : ∀ (f : Nat) {σ σ' : Sg} {S S' : List Tok}, tokM L c D d most f σ S = .ok (S', σ') → σ.out ≤ most → ∃ T, S' = S ++ T ∧ toksOK σ.out T ∧ σ'.out = σ.out + tlenS T ∧ σ'.out ≤ most := by
  intro f
  induction f with
  | zero => intro σ σ' S S' h; cases h
  | succ f ih =>
    intro σ σ' S S' h hm
    obtain ⟨r, σ1, h1, h⟩ := thenR_inv (x := tokStep L c D d most σ) h
    obtain ⟨hm1, ⟨rfl, ho⟩ | ⟨t, rfl, hok, ho⟩⟩ := tokStep_ok h1 hm
    · injection h with h; injection h with h2 h; subst h; subst h2
      exact ⟨[], by simp, trivial, by rw [ho]; rfl, hm1⟩
    · obtain ⟨T, hS, hT, ho2, hm2⟩ := ih h hm1
      refine ⟨t :: T, by rw [hS]; simp, ⟨hok, by rw [← ho]; exact hT⟩, ?_, hm2⟩
      rw [ho2, ho]
      show _ = σ.out + (tlen t + tlenS T)
      omega
theorem tokensM_ok {m : Nat → Int} {c : Nat} {md : Nat → Int} {d most : Nat} {σ σ' : Sg} {S : List Tok} (h : tokensM m c md d most σ = .ok (S, σ')) (hm : σ.out ≤ most) : toksOK σ.out S ∧ σ'.out = σ.out + tlenS S ∧ σ'.out ≤ most := by
  obtain ⟨_, σ1, h1, k1⟩ := thenR_inv (x := fitM m c σ) h
  obtain ⟨_, σ2, h2, k2⟩ := thenR_inv k1
  obtain ⟨e1, _⟩ := checkM_out h1
  obtain ⟨e2, _⟩ := checkM_out h2
  rw [e2, e1] at k2
  obtain ⟨T, hS, a, b, c⟩ := tokM_ok _ k2 hm
  rw [List.nil_append] at hS
  subst hS
  exact ⟨a, b, c⟩
theorem bytesX_len (k : Nat) : ∀ X, (bytesX X k).length = k := by
  induction k with
  | zero => intro X; rfl
  | succ k ih => intro X; show (bytesX (X / 256) k).length + 1 = k + 1; rw [ih]
theorem storedM_ok {most : Nat} {σ σ' : Sg} {l : List UInt8} (h : storedM most σ = .ok (l, σ')) : σ'.out = σ.out + l.length ∧ σ'.out ≤ most := by
  unfold storedM at h
  obtain ⟨a, σ1, h1, h⟩ := thenR_inv h
  obtain ⟨b, σ2, h2, h⟩ := thenR_inv h
  have o1 := (bitsM_out h1).1
  have o2 := (bitsM_out h2).1
  have o0 : (evenM σ).out = σ.out := rfl
  split at h
  · cases h
  split at h
  · cases h
  obtain ⟨u, σ3, h3, h⟩ := thenR_inv h
  have o3 := growM_out h3
  injection h with h; injection h with h4 h; subst h; subst h4
  refine ⟨?_, o3.2⟩
  rw [bytesX_len, o3.1]
  show σ2.out + a = _
  omega
theorem firstM_out : ∀ (r : List Nat) {m m' : Nat → Int} {σ σ' : Sg}, firstM r m σ = .ok (m', σ') → σ'.out = σ.out := by
  intro r
  induction r with
  | nil => intro m m' σ σ' h; injection h with h; injection h with _ h; subst h; rfl
  | cons s r ih =>
    intro m m' σ σ' h
    obtain ⟨v, σ1, h1, h⟩ := thenR_inv (x := bitsM 3 σ) h
    rw [ih h, (bitsM_out h1).1]
theorem lenStep_out {K : Nat → Nat} {σ σ' : Sg} {l l' : List Nat} (h : lenStep K σ l = .ok (l', σ')) : σ'.out = σ.out := by
  unfold lenStep at h
  obtain ⟨s, σ1, h1, h⟩ := thenR_inv h
  have o1 := symM_out h1
  split at h
  · split at h
    · cases h
    · obtain ⟨b, σ2, h2, h⟩ := thenR_inv h
      injection h with h; injection h with _ h; subst h
      rw [(bitsM_out h2).1, o1]
  split at h
  · obtain ⟨b, σ2, h2, h⟩ := thenR_inv h
    injection h with h; injection h with _ h; subst h
    rw [(bitsM_out h2).1, o1]
  split at h
  · obtain ⟨b, σ2, h2, h⟩ := thenR_inv h
    injection h with h; injection h with _ h; subst h
    rw [(bitsM_out h2).1, o1]
  injection h with h; injection h with _ h; subst h
  exact o1
theorem lenLoop_out {K : Nat → Nat} {need : Nat} : ∀ (f : Nat) {σ σ' : Sg} {l l' : List Nat}, lenLoop K need f σ l = .ok (l', σ') → σ'.out = σ.out := by
  intro f
  induction f with
  | zero => intro σ σ' l l' h; cases h
  | succ f ih =>
    intro σ σ' l l' h
    have h' : (if l.length < need then thenR (lenStep K σ l) fun l' σ1 => lenLoop K need f σ1 l' else .ok (l, σ)) = .ok (l', σ') := h
    split at h'
    · obtain ⟨a, σ1, h1, h2⟩ := thenR_inv h'
      rw [ih h2, lenStep_out h1]
    · injection h' with h'; injection h' with _ h'; subst h'; rfl
theorem dynM_out {σ σ' : Sg} {r : List Nat × Nat} (h : dynM σ = .ok (r, σ')) : σ'.out = σ.out := by
  unfold dynM at h
  obtain ⟨a, σ1, h1, h⟩ := thenR_inv h
  obtain ⟨b, σ2, h2, h⟩ := thenR_inv h
  obtain ⟨c, σ3, h3, h⟩ := thenR_inv h
  split at h
  · cases h
  obtain ⟨m, σ4, h4, h⟩ := thenR_inv h
  obtain ⟨_, σ5, h5, h⟩ := thenR_inv h
  obtain ⟨l, σ6, h6, h⟩ := thenR_inv h
  obtain ⟨e5, _⟩ := checkM_out h5
  split at h
  · cases h
  injection h with h; injection h with _ h; subst h
  rw [lenLoop_out _ h6, e5, firstM_out _ h4, (bitsM_out h3).1, (bitsM_out h2).1, (bitsM_out h1).1]
theorem blockM_ok {most : Nat} {σ σ' : Sg} {r : Nat × Bk} (h : blockM most σ = .ok (r, σ')) (hm : σ.out ≤ most) : toksOK (σ.out + r.2.bytes.length) r.2.toks ∧ σ'.out = σ.out + blen r.2 ∧ σ'.out ≤ most := by
  unfold blockM at h
  obtain ⟨a, σ1, h1, h⟩ := thenR_inv h
  obtain ⟨b, σ2, h2, h⟩ := thenR_inv h
  have o : σ2.out = σ.out := by rw [(bitsM_out h2).1, (bitsM_out h1).1]
  split at h
  · obtain ⟨l, σ3, h3, h⟩ := thenR_inv h
    have o3 := storedM_ok h3
    injection h with h; injection h with h4 h; subst h; subst h4
    refine ⟨trivial, ?_, o3.2⟩
    show _ = σ.out + (l.length + 0)
    omega
  split at h
  · obtain ⟨S, σ3, h3, h⟩ := thenR_inv h
    obtain ⟨a1, a2, a3⟩ := tokensM_ok h3 (by omega)
    injection h with h; injection h with h4 h; subst h; subst h4
    refine ⟨by rw [o] at a1; exact a1, ?_, a3⟩
    show _ = σ.out + (0 + tlenS S)
    omega
  split at h
  · obtain ⟨l, σ3, h3, h⟩ := thenR_inv h
    obtain ⟨S, σ4, h4, h⟩ := thenR_inv h
    have o3 := dynM_out h3
    obtain ⟨a1, a2, a3⟩ := tokensM_ok h4 (by omega)
    injection h with h; injection h with h5 h; subst h; subst h5
    refine ⟨by rw [o3, o] at a1; exact a1, ?_, a3⟩
    show _ = σ.out + (0 + tlenS S)
    omega
  · cases h
theorem blocksM_ok {most : Nat} : ∀ (f : Nat) {σ σ' : Sg} {bs bs' : List Bk}, blocksM most f σ bs = .ok (bs', σ') → σ.out ≤ most → ∃ c, bs' = bs ++ c ∧ blksOK σ.out c ∧ σ'.out = σ.out + blenS c ∧ σ'.out ≤ most := by
  intro f
  induction f with
  | zero => intro σ σ' bs bs' h; cases h
  | succ f ih =>
    intro σ σ' bs bs' h hm
    obtain ⟨r, σ1, h1, h⟩ := thenR_inv (x := blockM most σ) h
    obtain ⟨a1, a2, a3⟩ := blockM_ok h1 hm
    split at h
    · obtain ⟨c, b1, b2, b3, b4⟩ := ih h a3
      refine ⟨r.2 :: c, by rw [b1]; simp, ⟨a1, by rw [← a2]; exact b2⟩, ?_, b4⟩
      rw [b3, a2]
      show _ = σ.out + (blen r.2 + blenS c)
      omega
    · injection h with h; injection h with h2 h; subst h; subst h2
      refine ⟨[r.2], rfl, ⟨a1, trivial⟩, ?_, a3⟩
      rw [a2]
      show _ = σ.out + (blen r.2 + 0)
      rfl
end Go.Proofs.Ytjnglahjngiofaa
