/- Texts joined: JoinP InfUp InfSim Rdr Xor16 RSto RStoM InfWays FixR EncP PK Def1 Def2 TokW Def4 StepP StepD DynP SortP SortW SortB PmP FixN. Conditions: each theorem says its own. -/
import Derived.WalkKit
import Derived.Laws.BitsAllLaws
import Derived.Deep.RegionHeld3
import Derived.Test.YtjnglahjngiofaaJkaegfj
namespace Go.Proofs.Ytjnglahjngiofaa
set_option maxRecDepth 100000
open Go.RowKit
def tlen (t : Tok) : Nat := if t.l = 0 then 1 else t.l.toNat
theorem tout_len (o : List UInt8) (t : Tok) : (tout o t).length = o.length + tlen t := by
 unfold tout tlen
 split
 . rw [List.length_append]; rfl
 . exact rep_len _ _ _
def joinS (o : List UInt8) (S : List Tok) : List UInt8 := S.foldl tout o
def joinB (o : List UInt8) (b : Bk) : List UInt8 := joinS (o ++ b.bytes) b.toks
def joinL (o : List UInt8) (bs : List Bk) : List UInt8 := bs.foldl joinB o
def tlenS (S : List Tok) : Nat := (S.map tlen).sum
def blen (b : Bk) : Nat := b.bytes.length + tlenS b.toks
def blenS (bs : List Bk) : Nat := (bs.map blen).sum
theorem joinS_len (S : List Tok) : ∀ o, (joinS o S).length = o.length + tlenS S := by
 induction S with
 | nil => intro o; rfl
 | cons t r ih =>
  intro o
  show (joinS (tout o t) r).length = _
  rw [ih, tout_len]
  show _ = o.length + (tlen t + tlenS r)
  omega
theorem joinB_len (o : List UInt8) (b : Bk) : (joinB o b).length = o.length + blen b := by
 unfold joinB blen
 rw [joinS_len, List.length_append]
 omega
theorem joinL_len (bs : List Bk) : ∀ o, (joinL o bs).length = o.length + blenS bs := by
 induction bs with
 | nil => intro o; rfl
 | cons b r ih =>
  intro o
  show (joinL (joinB o b) r).length = _
  rw [ih, joinB_len]
  show _ = o.length + (blen b + blenS r)
  omega
def tokOK (n : Nat) (t : Tok) : Prop := t.l = 0 \/ (0 < t.l /\ t.l <= 300 /\ 1 <= t.d /\ t.d <= (n : Int))
def toksOK : Nat -> List Tok -> Prop
 | _, [] => True
 | n, t :: r => tokOK n t /\ toksOK (n + tlen t) r
def blksOK : Nat -> List Bk -> Prop
 | _, [] => True
 | n, b :: r => toksOK (n + b.bytes.length) b.toks /\ blksOK (n + blen b) r
theorem bitsM_out {k : Nat} {σ σ' : Sg} {a : Nat} (h : bitsM k σ = .ok (a, σ')) : σ'.out = σ.out /\ a < 2 ^ k := by
 unfold bitsM at h
 split at h
 . cases h
 . injection h with h; injection h with h1 h; subst h; subst h1; exact ⟨rfl, Nat.mod_lt _ (Nat.two_pow_pos k)⟩
theorem symM_out {L : Nat -> Nat} {c : Nat} {σ σ' : Sg} {a : Nat} (h : symM L c σ = .ok (a, σ')) : σ'.out = σ.out := by
 unfold symM at h
 split at h
 . injection h with h; injection h with _ h; subst h; rfl
 . cases h
theorem growM_out {most k : Nat} {σ σ' : Sg} {a : Unit} (h : growM most k σ = .ok (a, σ')) : σ'.out = σ.out + k /\ σ'.out <= most := by
 unfold growM at h
 split at h
 . cases h
 . injection h with h; injection h with _ h; subst h; exact ⟨rfl, by show σ.out + k <= most; omega⟩
theorem checkM_out {ok : Prop} [Decidable ok] {e : Nat} {σ σ' : Sg} {a : Unit} (h : checkM ok e σ = .ok (a, σ')) : σ' = σ /\ ok := by
 unfold checkM at h
 split at h
 . injection h with h; injection h with _ h; exact ⟨h.symm, by assumption⟩
 . cases h
theorem near_small (s : Nat) (h1 : ¬ s < 256) (h0 : s ≠ 256) (h2 : ¬ 285 < s) : 3 <= (sizeS false ((s : Int) - 257)).1 /\ (sizeS false ((s : Int) - 257)).1 <= 258 /\ (sizeS false ((s : Int) - 257)).2 <= 5 := by
 have e : (s : Int) - 257 = ((s - 257 : Nat) : Int) := by omega
 rw [e]
 have key : ∀ i : Nat, i <= 28 -> 3 <= (sizeS false (i : Int)).1 /\ (sizeS false (i : Int)).1 <= 258 /\ (sizeS false (i : Int)).2 <= 5 := by decide
 exact key _ (by omega)
theorem far_small (q : Nat) (h : ¬ 29 < q) : 1 <= (sizeS true (q : Int)).1 := by
 have key : ∀ i : Nat, i <= 29 -> 1 <= (sizeS true (i : Int)).1 := by decide
 exact key q (by omega)
theorem tokStep_ok {L : Nat -> Nat} {c : Nat} {D : Nat -> Nat} {d most : Nat} {σ σ' : Sg} {r : Option Tok} (h : tokStep L c D d most σ = .ok (r, σ')) (hm : σ.out <= most) :
 σ'.out <= most /\ ((r = none /\ σ'.out = σ.out) \/ ∃ t, r = some t /\ tokOK σ.out t /\ σ'.out = σ.out + tlen t) := by
 unfold tokStep at h
 obtain ⟨s, σ1, h1, h⟩ := thenR_inv h
 have o1 := symM_out h1
 by_cases h256 : s = 256
 . rw [if_pos h256] at h
   injection h with h; injection h with h2 h; subst h; subst h2
   exact ⟨by omega, .inl ⟨rfl, o1⟩⟩
 rw [if_neg h256] at h
 by_cases hlt : s < 256
 . rw [if_pos hlt] at h
   obtain ⟨u, σ2, h2, h⟩ := thenR_inv h
   have o2 := growM_out h2
   injection h with h; injection h with h3 h; subst h; subst h3
   exact ⟨o2.2, .inr ⟨_, rfl, .inl rfl, by rw [o2.1, o1]; rfl⟩⟩
 rw [if_neg hlt] at h
 by_cases h285 : 285 < s
 . rw [if_pos h285] at h; cases h
 rw [if_neg h285] at h
 obtain ⟨hb3, hb258, hm5⟩ := near_small s hlt h256 h285
 obtain ⟨b, σ2, h2, h⟩ := thenR_inv h
 have o2 := bitsM_out h2
 obtain ⟨q, σ3, h3, h⟩ := thenR_inv h
 have o3 := symM_out h3
 by_cases h29 : 29 < q
 . rw [if_pos h29] at h; cases h
 rw [if_neg h29] at h
 obtain ⟨g, σ4, h4, h⟩ := thenR_inv h
 have o4 := bitsM_out h4
 have hfb := far_small q h29
 have hb32 : b < 32 := Qb o2.2 (Qe (Nat.pow_le_pow_right (by decide) hm5) (by decide))
 by_cases hd : σ4.out < (sizeS true (q : Int)).1 + g
 . rw [if_pos hd] at h; cases h
 rw [if_neg hd] at h
 obtain ⟨u, σ5, h5, h⟩ := thenR_inv h
 have o5 := growM_out h5
 injection h with h; injection h with h6 h; subst h; subst h6
 have hpos : ¬ ((((sizeS false ((s : Int) - 257)).1 + b : Nat) : Int) = 0) := by omega
 refine ⟨o5.2, .inr ⟨_, rfl, .inr ⟨?_, ?_, ?_, ?_⟩, ?_⟩⟩
 . show (0 : Int) < (((sizeS false ((s : Int) - 257)).1 + b : Nat) : Int); omega
 . show (((sizeS false ((s : Int) - 257)).1 + b : Nat) : Int) <= 300; omega
 . show (1 : Int) <= (((sizeS true (q : Int)).1 + g : Nat) : Int); omega
 . show (((sizeS true (q : Int)).1 + g : Nat) : Int) <= (σ.out : Int); omega
 . rw [o5.1]
   unfold tlen
   rw [if_neg hpos]
   show σ4.out + _ = σ.out + (((sizeS false ((s : Int) - 257)).1 + b : Nat) : Int).toNat
   rw [Int.toNat_natCast]
   omega
theorem tokM_ok {L : Nat -> Nat} {c : Nat} {D : Nat -> Nat} {d most : Nat} : ∀ (f : Nat) {σ σ' : Sg} {S S' : List Tok}, tokM L c D d most f σ S = .ok (S', σ') -> σ.out <= most -> ∃ T, S' = S ++ T /\ toksOK σ.out T /\ σ'.out = σ.out + tlenS T /\ σ'.out <= most := by
 intro f
 induction f with
 | zero => intro σ σ' S S' h; cases h
 | succ f ih =>
  intro σ σ' S S' h hm
  obtain ⟨r, σ1, h1, h⟩ := thenR_inv (x := tokStep L c D d most σ) h
  obtain ⟨hm1, ⟨rfl, ho⟩ | ⟨t, rfl, hok, ho⟩⟩ := tokStep_ok h1 hm
  . injection h with h; injection h with h2 h; subst h; subst h2
    exact ⟨[], by simp, trivial, by rw [ho]; rfl, hm1⟩
  . obtain ⟨T, hS, hT, ho2, hm2⟩ := ih h hm1
    refine ⟨t :: T, by rw [hS]; simp, ⟨hok, by rw [<- ho]; exact hT⟩, ?_, hm2⟩
    rw [ho2, ho]
    show _ = σ.out + (tlen t + tlenS T)
    omega
theorem tokensM_ok {m : Nat -> Int} {c : Nat} {md : Nat -> Int} {d most : Nat} {σ σ' : Sg} {S : List Tok} (h : tokensM m c md d most σ = .ok (S, σ')) (hm : σ.out <= most) : toksOK σ.out S /\ σ'.out = σ.out + tlenS S /\ σ'.out <= most := by
 obtain ⟨_, σ1, h1, k1⟩ := thenR_inv (x := fitM m c σ) h
 obtain ⟨_, σ2, h2, k2⟩ := thenR_inv k1
 obtain ⟨e1, _⟩ := checkM_out h1
 obtain ⟨e2, _⟩ := checkM_out h2
 rw [e2, e1] at k2
 obtain ⟨T, hS, a, b, c⟩ := tokM_ok _ k2 hm
 rw [List.nil_append] at hS
 subst hS
 exact ⟨a, b, c⟩
theorem bytesX_len (k : Nat) : ∀ X, (bytesX X k).length = k := by
 induction k with
 | zero => intro X; rfl
 | succ k ih => intro X; show (bytesX (X / 256) k).length + 1 = k + 1; rw [ih]
theorem storedM_ok {most : Nat} {σ σ' : Sg} {l : List UInt8} (h : storedM most σ = .ok (l, σ')) : σ'.out = σ.out + l.length /\ σ'.out <= most := by
 unfold storedM at h
 obtain ⟨a, σ1, h1, h⟩ := thenR_inv h
 obtain ⟨b, σ2, h2, h⟩ := thenR_inv h
 have o1 := (bitsM_out h1).1
 have o2 := (bitsM_out h2).1
 have o0 : (evenM σ).out = σ.out := rfl
 split at h
 . cases h
 split at h
 . cases h
 obtain ⟨u, σ3, h3, h⟩ := thenR_inv h
 have o3 := growM_out h3
 injection h with h; injection h with h4 h; subst h; subst h4
 refine ⟨?_, o3.2⟩
 rw [bytesX_len, o3.1]
 show σ2.out + a = _
 omega
theorem firstM_out : ∀ (r : List Nat) {m m' : Nat -> Int} {σ σ' : Sg}, firstM r m σ = .ok (m', σ') -> σ'.out = σ.out := by
 intro r
 induction r with
 | nil => intro m m' σ σ' h; injection h with h; injection h with _ h; subst h; rfl
 | cons s r ih =>
  intro m m' σ σ' h
  obtain ⟨v, σ1, h1, h⟩ := thenR_inv (x := bitsM 3 σ) h
  rw [ih h, (bitsM_out h1).1]
theorem lenStep_out {K : Nat -> Nat} {σ σ' : Sg} {l l' : List Nat} (h : lenStep K σ l = .ok (l', σ')) : σ'.out = σ.out := by
 unfold lenStep at h
 obtain ⟨s, σ1, h1, h⟩ := thenR_inv h
 have o1 := symM_out h1
 split at h
 . split at h
   . cases h
   . obtain ⟨b, σ2, h2, h⟩ := thenR_inv h
     injection h with h; injection h with _ h; subst h
     rw [(bitsM_out h2).1, o1]
 split at h
 . obtain ⟨b, σ2, h2, h⟩ := thenR_inv h
   injection h with h; injection h with _ h; subst h
   rw [(bitsM_out h2).1, o1]
 split at h
 . obtain ⟨b, σ2, h2, h⟩ := thenR_inv h
   injection h with h; injection h with _ h; subst h
   rw [(bitsM_out h2).1, o1]
 injection h with h; injection h with _ h; subst h
 exact o1
theorem lenLoop_out {K : Nat -> Nat} {need : Nat} : ∀ (f : Nat) {σ σ' : Sg} {l l' : List Nat}, lenLoop K need f σ l = .ok (l', σ') -> σ'.out = σ.out := by
 intro f
 induction f with
 | zero => intro σ σ' l l' h; cases h
 | succ f ih =>
  intro σ σ' l l' h
  have h' : (if l.length < need then thenR (lenStep K σ l) fun l' σ1 => lenLoop K need f σ1 l' else .ok (l, σ)) = .ok (l', σ') := h
  split at h'
  . obtain ⟨a, σ1, h1, h2⟩ := thenR_inv h'
    rw [ih h2, lenStep_out h1]
  . injection h' with h'; injection h' with _ h'; subst h'; rfl
theorem dynM_out {σ σ' : Sg} {r : List Nat × Nat} (h : dynM σ = .ok (r, σ')) : σ'.out = σ.out := by
 unfold dynM at h
 obtain ⟨a, σ1, h1, h⟩ := thenR_inv h
 obtain ⟨b, σ2, h2, h⟩ := thenR_inv h
 obtain ⟨c, σ3, h3, h⟩ := thenR_inv h
 split at h
 . cases h
 obtain ⟨m, σ4, h4, h⟩ := thenR_inv h
 obtain ⟨_, σ5, h5, h⟩ := thenR_inv h
 obtain ⟨l, σ6, h6, h⟩ := thenR_inv h
 obtain ⟨e5, _⟩ := checkM_out h5
 split at h
 . cases h
 injection h with h; injection h with _ h; subst h
 rw [lenLoop_out _ h6, e5, firstM_out _ h4, (bitsM_out h3).1, (bitsM_out h2).1, (bitsM_out h1).1]
theorem blockM_ok {most : Nat} {σ σ' : Sg} {r : Nat × Bk} (h : blockM most σ = .ok (r, σ')) (hm : σ.out <= most) : toksOK (σ.out + r.2.bytes.length) r.2.toks /\ σ'.out = σ.out + blen r.2 /\ σ'.out <= most := by
 unfold blockM at h
 obtain ⟨a, σ1, h1, h⟩ := thenR_inv h
 obtain ⟨b, σ2, h2, h⟩ := thenR_inv h
 have o : σ2.out = σ.out := by rw [(bitsM_out h2).1, (bitsM_out h1).1]
 split at h
 . obtain ⟨l, σ3, h3, h⟩ := thenR_inv h
   have o3 := storedM_ok h3
   injection h with h; injection h with h4 h; subst h; subst h4
   refine ⟨trivial, ?_, o3.2⟩
   show _ = σ.out + (l.length + 0)
   omega
 split at h
 . obtain ⟨S, σ3, h3, h⟩ := thenR_inv h
   obtain ⟨a1, a2, a3⟩ := tokensM_ok h3 (by omega)
   injection h with h; injection h with h4 h; subst h; subst h4
   refine ⟨by rw [o] at a1; exact a1, ?_, a3⟩
   show _ = σ.out + (0 + tlenS S)
   omega
 split at h
 . obtain ⟨l, σ3, h3, h⟩ := thenR_inv h
   obtain ⟨S, σ4, h4, h⟩ := thenR_inv h
   have o3 := dynM_out h3
   obtain ⟨a1, a2, a3⟩ := tokensM_ok h4 (by omega)
   injection h with h; injection h with h5 h; subst h; subst h5
   refine ⟨by rw [o3, o] at a1; exact a1, ?_, a3⟩
   show _ = σ.out + (0 + tlenS S)
   omega
 . cases h
theorem blocksM_ok {most : Nat} : ∀ (f : Nat) {σ σ' : Sg} {bs bs' : List Bk}, blocksM most f σ bs = .ok (bs', σ') -> σ.out <= most -> ∃ c, bs' = bs ++ c /\ blksOK σ.out c /\ σ'.out = σ.out + blenS c /\ σ'.out <= most := by
 intro f
 induction f with
 | zero => intro σ σ' bs bs' h; cases h
 | succ f ih =>
  intro σ σ' bs bs' h hm
  obtain ⟨r, σ1, h1, h⟩ := thenR_inv (x := blockM most σ) h
  obtain ⟨a1, a2, a3⟩ := blockM_ok h1 hm
  split at h
  . obtain ⟨c, b1, b2, b3, b4⟩ := ih h a3
    refine ⟨r.2 :: c, by rw [b1]; simp, ⟨a1, by rw [<- a2]; exact b2⟩, ?_, b4⟩
    rw [b3, a2]
    show _ = σ.out + (blen r.2 + blenS c)
    omega
  . injection h with h; injection h with h2 h; subst h; subst h2
    refine ⟨[r.2], rfl, ⟨a1, trivial⟩, ?_, a3⟩
    rw [a2]
    show _ = σ.out + (blen r.2 + 0)
    rfl
def Up {α : Type} (x : Rs α) (σ : Sg) : Prop := ∀ a σ', x = .ok (a, σ') -> σ'.n <= σ.n /\ σ.out <= σ'.out
theorem Up.err {α : Type} (e : Nat) (σ : Sg) : Up (.error e : Rs α) σ := fun _ _ h => by cases h
theorem Up.ret {α : Type} (a : α) (σ : Sg) : Up (.ok (a, σ) : Rs α) σ := fun _ _ h => by injection h with h; injection h with _ h; subst h; exact ⟨Qa _, Qa _⟩
theorem Up.then {α β : Type} {x : Rs α} {f : α -> Sg -> Rs β} {σ : Sg} (h : Up x σ) (k : ∀ a σ1, Up (f a σ1) σ1) : Up (thenR x f) σ := fun b σ' e => by
 obtain ⟨a, σ1, h1, h2⟩ := thenR_inv e
 exact ⟨Qe (k a σ1 b σ' h2).1 (h a σ1 h1).1, Qe (h a σ1 h1).2 (k a σ1 b σ' h2).2⟩
theorem bitsM_up (k : Nat) (σ : Sg) : Up (bitsM k σ) σ := fun a σ' h => ⟨bitsM_mono k σ a σ' h, Nat.le_of_eq (bitsM_out h).1.symm⟩
theorem symM_up (L : Nat -> Nat) (c : Nat) (σ : Sg) : Up (symM L c σ) σ := fun a σ' h => ⟨symM_mono L c σ a σ' h, Nat.le_of_eq (symM_out h).symm⟩
theorem growM_up (most k : Nat) (σ : Sg) : Up (growM most k σ) σ := fun a σ' h => ⟨growM_mono most k σ a σ' h, by rw [(growM_out h).1]; exact Nat.le_add_right _ _⟩
theorem checkM_up (ok : Prop) [Decidable ok] (e : Nat) (σ : Sg) : Up (checkM ok e σ) σ := by
 unfold checkM
 split
 . exact Up.ret _ _
 . exact Up.err _ _
theorem tokStep_up (L : Nat -> Nat) (c : Nat) (D : Nat -> Nat) (d most : Nat) (σ : Sg) : Up (tokStep L c D d most σ) σ := by
 unfold tokStep
 refine (symM_up L c σ).then fun s σ1 => ?_
 split
 . exact Up.ret _ _
 split
 . exact (growM_up _ _ _).then fun _ σ2 => Up.ret _ _
 split
 . exact Up.err _ _
 refine (bitsM_up _ _).then fun b σ2 => (symM_up _ _ _).then fun q σ3 => ?_
 split
 . exact Up.err _ _
 refine (bitsM_up _ _).then fun g σ4 => ?_
 split
 . exact Up.err _ _
 exact (growM_up _ _ _).then fun _ σ5 => Up.ret _ _
theorem tokM_up (L : Nat -> Nat) (c : Nat) (D : Nat -> Nat) (d most : Nat) : ∀ (f : Nat) (σ : Sg) (S : List Tok), Up (tokM L c D d most f σ S) σ := by
 intro f
 induction f with
 | zero => intro σ S; exact Up.err _ _
 | succ f ih =>
  intro σ S
  show Up (thenR _ _) σ
  refine (tokStep_up L c D d most σ).then fun t σ1 => ?_
  cases t with
  | none => exact Up.ret _ _
  | some t => exact ih σ1 _
theorem tokensM_up (m : Nat -> Int) (c : Nat) (md : Nat -> Int) (d most : Nat) (σ : Sg) : Up (tokensM m c md d most σ) σ :=
 (checkM_up _ _ _).then fun _ _ => (checkM_up _ _ _).then fun _ _ => tokM_up _ _ _ _ _ _ _ _
theorem storedM_up (most : Nat) (σ : Sg) : Up (storedM most σ) σ := fun l σ' h => ⟨storedM_mono most σ l σ' h, by rw [(storedM_ok h).1]; exact Nat.le_add_right _ _⟩
theorem firstM_up : ∀ (r : List Nat) (m : Nat -> Int) (σ : Sg), Up (firstM r m σ) σ := by
 intro r
 induction r with
 | nil => intro m σ; exact Up.ret _ _
 | cons s r ih => intro m σ; exact (bitsM_up 3 σ).then fun v σ1 => ih _ _
theorem lenStep_up (K : Nat -> Nat) (σ : Sg) (l : List Nat) : Up (lenStep K σ l) σ := by
 unfold lenStep
 refine (symM_up _ _ _).then fun s σ1 => ?_
 split
 . split
   . exact Up.err _ _
   . exact (bitsM_up _ _).then fun _ _ => Up.ret _ _
 split
 . exact (bitsM_up _ _).then fun _ _ => Up.ret _ _
 split
 . exact (bitsM_up _ _).then fun _ _ => Up.ret _ _
 exact Up.ret _ _
theorem lenLoop_up (K : Nat -> Nat) (need : Nat) : ∀ (f : Nat) (σ : Sg) (l : List Nat), Up (lenLoop K need f σ l) σ := by
 intro f
 induction f with
 | zero => intro σ l; exact Up.err _ _
 | succ f ih =>
  intro σ l
  show Up (if _ then _ else _) σ
  split
  . exact (lenStep_up _ _ _).then fun l' σ1 => ih σ1 l'
  . exact Up.ret _ _
theorem dynM_up (σ : Sg) : Up (dynM σ) σ := by
 unfold dynM
 refine (bitsM_up _ _).then fun a σ1 => (bitsM_up _ _).then fun b σ2 => (bitsM_up _ _).then fun c σ3 => ?_
 split
 . exact Up.err _ _
 refine (firstM_up _ _ _).then fun m σ4 => (checkM_up _ _ _).then fun _ σ5 => (lenLoop_up _ _ _ _ _).then fun l σ6 => ?_
 split
 . exact Up.err _ _
 . exact Up.ret _ _
section
variable {φ : Sg -> Sg} {good : Sg -> Prop} {e : Nat}
end
def takeM (k : Nat) (σ : Sg) : Rs (List UInt8) := if σ.n < 8 * k then .error 6 else .ok (bytesX σ.X k, ⟨σ.X / 2 ^ (8 * k), σ.n - 8 * k, σ.out⟩)
theorem storedM_take (most : Nat) (σ : Sg) : storedM most σ = thenR (bitsM 16 (evenM σ)) fun a σ1 => thenR (bitsM 16 σ1) fun b σ2 => if a + b ≠ 65535 then .error 3 else thenR (takeM a σ2) fun l σ3 => thenR (growM most a σ3) fun _ σ4 => .ok (l, σ4) := by
 unfold storedM
 congr 1
 funext a σ1
 congr 1
 funext b σ2
 split
 . rfl
 unfold takeM
 split <;> rfl
theorem lens_15 (m : Nat -> Int) (c : Nat) (h : ∀ i, m i <= 15) : ∀ i, i < c -> lens m i <= 15 := fun i _ => by
 unfold lens
 have := h i
 omega
theorem lenF_15 (l : List Nat) (h : ∀ y ∈ l, y <= 15) (i : Nat) : lenF l i <= 15 := by
 unfold lenF
 rcases Nat.lt_or_ge i l.length with hi | hi
 . have e : l.getD i 0 = l[i] := by simp [List.getD, hi]
   rw [e]
   have := h _ (List.getElem_mem hi)
   omega
 . have e : l.getD i 0 = 0 := by simp [List.getD, hi]
   rw [e]
   decide
section
variable {φ : Sg -> Sg} {good : Sg -> Prop} {e most most' : Nat}
theorem fixL_15 (i : Nat) : fixL i <= 15 := by
 unfold fixL
 split
 . decide
 split
 . decide
 split <;> decide
theorem bitsM_less {k : Nat} {σ σ' : Sg} {a : Nat} (h : bitsM (k + 1) σ = .ok (a, σ')) : σ'.n < σ.n := by
 unfold bitsM at h
 split at h
 . cases h
 . injection h with h; injection h with _ h; subst h; show σ.n - (k + 1) < σ.n; omega
theorem blockM_less {most : Nat} {σ σ' : Sg} {r : Nat × Bk} (h : blockM most σ = .ok (r, σ')) : σ'.n < σ.n := by
 unfold blockM at h
 obtain ⟨last, σ1, h1, h2⟩ := thenR_inv h
 refine Nat.lt_of_le_of_lt ?_ (bitsM_less h1)
 refine (?_ : Up _ σ1) r σ' h2 |>.1
 clear h h2
 refine (bitsM_up _ _).then fun k σ2 => ?_
 split
 . exact (storedM_up _ _).then fun _ _ => Up.ret _ _
 split
 . exact (tokensM_up _ _ _ _ _ _).then fun _ _ => Up.ret _ _
 split
 . exact (dynM_up _).then fun _ _ => (tokensM_up _ _ _ _ _ _).then fun _ _ => Up.ret _ _
 exact Up.err _ _
end
def RdAt (w : World) (R P : Nat) (s : ByteArray) (p z most e : Nat) : Prop :=
 Blk w R 100 #[.pointer (some ⟨P, 0, none⟩), .int .i64 (z : Int), .int .i64 (most : Int), .int .i64 (e : Int)] /\ SrcAt w P s p /\ R ≠ P
def Rch (R P : Nat) (w w' : World) : Prop :=
 w'.os = w.os /\ w'.tape = w.tape /\ w'.output = w.output /\ w.heap.size <= w'.heap.size /\ ∀ g, g < w.heap.size -> g ≠ R -> g ≠ P -> w'.heap[g]? = w.heap[g]?
section
variable {R P : Nat} {w w1 w2 : World}
theorem Rch.refl (w : World) : Rch R P w w := ⟨rfl, rfl, rfl, Qa _, fun _ _ _ _ => rfl⟩
theorem Rch.trans (h : Rch R P w w1) (k : Rch R P w1 w2) : Rch R P w w2 :=
 ⟨k.1.trans h.1, k.2.1.trans h.2.1, k.2.2.1.trans h.2.2.1, Qe h.2.2.2.1 k.2.2.2.1, fun g hg h1 h2 => (k.2.2.2.2 g (Qb hg h.2.2.2.1) h1 h2).trans (h.2.2.2.2 g hg h1 h2)⟩
theorem Rch.row (h : w.grownBy w1 (some P)) : Rch R P w w1 := ⟨h.os, h.tape, h.output, h.size, fun g hg _ h2 => h.block g hg (fun e => h2 (by injection e))⟩
theorem Rch.drewN (n : Nat) : Rch R P w (w.drewN n) := ⟨rfl, rfl, rfl, Qa _, fun _ _ _ _ => rfl⟩
theorem Rch.set_ (i : Nat) (v : Value) : Rch R P w (w.setCell ⟨R, i, none⟩ v) := ⟨rfl, rfl, rfl, by simp [World.setCell], fun g _ h1 _ => heap_setCell_other w _ _ _ (fun e => h1 (by rw [e]))⟩
theorem Rch.old (h : Rch R P w w1) {B : Nat} {w0 : World} (hb : Below B w0 w) (h1 : B <= w.heap.size) (hR : B <= R) (hP : B <= P) : Below B w0 w1 :=
 ⟨h.1.trans hb.os, h.2.1.trans hb.tape, h.2.2.1.trans hb.output, Qe hb.size h.2.2.2.1, fun g hg => (h.2.2.2.2 g (by omega) (by omega) (by omega)).trans (hb.block g hg)⟩
theorem Rch.below {B : Nat} (h : Below B w w1) (hB : w.heap.size <= B) : Rch R P w w1 := ⟨h.os, h.tape, h.output, h.size, fun g hg _ _ => h.block g (by omega)⟩
theorem Rch.blk (h : Rch R P w w1) {g t : Nat} {cs : Array Value} (hb : Blk w g t cs) (h1 : g ≠ R) (h2 : g ≠ P) : Blk w1 g t cs := (h.2.2.2.2 g hb.lt h1 h2).trans hb
end
section
variable {w w1 : World} {R P p z most e : Nat} {s : ByteArray}
theorem RdAt.drewN (h : RdAt w R P s p z most e) (n : Nat) : RdAt (w.drewN n) R P s p z most e := h
theorem RdAt.below {B : Nat} (h : RdAt w R P s p z most e) (hb : Below B w w1) (hR : R < B) (hP : P < B) : RdAt w1 R P s p z most e := ⟨h.1.below hb hR, h.2.1.below hb hP, h.2.2⟩
theorem RdAt.keep (h : RdAt w R P s p z most e) (hb : Below w.heap.size w w1) : RdAt w1 R P s p z most e := h.below hb h.1.lt h.2.1.lt
theorem RdAt.read (h : RdAt w R P s p z most e) {p' : Nat} (hS : SrcAt w1 P s p') (hg : w.grownBy w1 (some P)) : RdAt w1 R P s p' z most e := ⟨h.1.grown hg (fun e => h.2.2 (by injection e)), hS, h.2.2⟩
theorem RdAt.err (h : RdAt w R P s p z most e) (x : Nat) : RdAt (w.setCell ⟨R, 3, none⟩ (.int .i64 (x : Int))) R P s p z most x := by
 refine ⟨?_, Blk.far h.2.1 (Ne.symm h.2.2) _, h.2.2⟩
 have := h.1.set_ 3 (.int .i64 (x : Int))
 simpa using this
theorem RdAt.size (h : RdAt w R P s p z most e) (x : Nat) : RdAt (w.setCell ⟨R, 1, none⟩ (.int .i64 (x : Int))) R P s p x most e := by
 refine ⟨?_, Blk.far h.2.1 (Ne.symm h.2.2) _, h.2.2⟩
 have := h.1.set_ 1 (.int .i64 (x : Int))
 simpa using this
end
def firstE (e x : Nat) : Nat := if e = 0 then x else e
theorem fail_any (R P : Nat) (s : ByteArray) (p z most e x : Nat) (w : World) (hR : RdAt w R P s p z most e) :
 Calls Try.prog 51 #[.pointer (some ⟨R, 0, none⟩), .int .i64 (x : Int)] w fun r w' => r = .returned (.tuple #[]) /\ RdAt w' R P s p z most (firstE e x) /\ Rch R P w w' := by
 have c3 := hR.1.cell 3
 have f3 := hR.1.frozen 3
 simp at c3
 unfold firstE
 by_cases h0 : e = 0
 . have d0 : ((e : Int) == 0) = true := by simp; omega
   have HR := Qf (hR.err x)
   have HC : Hid (Rch R P w (w.setCell ⟨R, 3, none⟩ (.int .i64 (x : Int)))) := Rch.set_ 3 _
   rw [if_pos h0]
   clear hR h0
   go_enter Try.func51, Try.ntmps51
   go_wp2_with fail
   (try simp only [Exit.inBlock, Exit.then]); refine bodyPost_end (results_none rfl _ _ _) rfl ?_
   exact ⟨rfl, HR.out, HC.out⟩
 . have d0 : ((e : Int) == 0) = false := by simp; omega
   have HR := Qf hR
   rw [if_neg h0]
   clear hR h0
   go_enter Try.func51, Try.ntmps51
   go_wp2_with fail
   (try simp only [Exit.inBlock, Exit.then]); refine bodyPost_end (results_none rfl _ _ _) rfl ?_
   exact ⟨rfl, HR.out, Rch.refl _⟩
theorem bitsAt_lt (s : ByteArray) (p k : Nat) (hk : k <= 16) : bitsAt s p k < 65536 := by
 unfold bitsAt
 have h1 : num s / 2 ^ p % 2 ^ k < 2 ^ k := Nat.mod_lt _ (Nat.two_pow_pos k)
 have h2 : 2 ^ k <= 2 ^ 16 := Nat.pow_le_pow_right (by decide) hk
 have h3 : (2 : Nat) ^ 16 = 65536 := by decide
 omega
def bitsE (s : ByteArray) (p k e : Nat) : Nat := if 8 * s.size < p + k then firstE e 6 else e
theorem bits_any (R P : Nat) (s : ByteArray) (p z most e k : Nat) (hk : k <= 16) (hs : s.size <= 100000) (hp : p <= 1000000) (w : World) (hR : RdAt w R P s p z most e) :
 Calls Try.prog 47 #[.pointer (some ⟨R, 0, none⟩), .int .i64 (k : Int)] w fun r w' => r = .returned (.int .i64 (bitsAt s p k : Int)) /\ RdAt w' R P s (p + k) z most (bitsE s p k e) /\ Rch R P w w' := by
 have c0 := hR.1.cell 0
 simp at c0
 have CT := Qf (srcTake_any P s p k (k : Int) (.inr (.inl ⟨rfl, by omega⟩)) (by omega) (by omega) w hR.2.1)
 have hlt := bitsAt_lt s p k hk
 obtain ⟨v, Hv⟩ := Qi (bitsAt s p k)
 rw [Hv.out] at CT hlt ⊢
 have hw : IntKind.i64.wrap (v : Int) = (v : Int) := IntWalk.i64_in _ (by omega)
 have HR := Qf hR
 obtain ⟨E, HE⟩ := Qi (bitsE s p k e)
 rw [HE.out]
 clear hR
 go_enter Try.func47, Try.ntmps47
 go_wp2_with fail
 refine CT.out.mono ?_
 rintro r w1 ⟨rfl, hS1, hg1, _⟩
 have HR1 := Qf (HR.out.read hS1 hg1)
 have HC1 : Hid (Rch R P w w1) := Rch.row hg1
 have c1 := HR1.out.1.cell 0
 simp at c1
 have CS := srcShort_any P s (p + k) (by omega) w1 HR1.out.2.1
 obtain ⟨b, Hb⟩ := Qi (decide (8 * s.size < p + k))
 rw [Hb.out] at CS
 have HCS := Qf CS
 clear CS hS1 hg1 c0
 go_wp2_with fail
 refine HCS.out.mono ?_
 rintro r w2 ⟨rfl, n, rfl⟩
 have HR2 := Qf (HR1.out.drewN n)
 have HC2 : Hid (Rch R P w (w1.drewN n)) := HC1.out.trans (Rch.drewN n)
 clear HCS HR1 HC1 c1
 cases b with
 | true =>
  have hb : 8 * s.size < p + k := by simpa using Hb.out
  have CF := Qf (fail_any R P s (p + k) z most e 6 (w1.drewN n) HR2.out)
  have eE : firstE e 6 = E := by rw [<- HE.out]; unfold bitsE; rw [if_pos hb]
  rw [eE] at CF
  go_wp2_with fail
  refine CF.out.mono ?_
  rintro r w3 ⟨rfl, hR3, hC3⟩
  have HR3 := Qf hR3
  have HC3 := Qf (HC2.out.trans hC3)
  clear hR3 hC3 CF
  go_wp2_with fail
  go_ret
  exact ⟨rfl, HR3.out, HC3.out⟩
 | false =>
  have hb : ¬ 8 * s.size < p + k := by simpa using Hb.out
  have eE : E = e := by rw [<- HE.out]; unfold bitsE; rw [if_neg hb]
  go_wp2_with fail
  go_ret
  exact ⟨rfl, by rw [eE]; exact HR2.out, HC2.out⟩
def growE (most z e : Nat) : Nat := if most < z then firstE e 2 else e
theorem grow_any (R P : Nat) (s : ByteArray) (p z most e k : Nat) (hz : z <= 1000000000000) (_hm : most <= 1000000) (hk : k <= 1000000) (w : World) (hR : RdAt w R P s p z most e) :
 Calls Try.prog 72 #[.pointer (some ⟨R, 0, none⟩), .int .i64 (k : Int)] w fun r w' => r = .returned (.tuple #[]) /\ RdAt w' R P s p (z + k) most (growE most (z + k) e) /\ Rch R P w w' := by
 have c1 := hR.1.cell 1
 have f1 := hR.1.frozen 1
 simp at c1
 obtain ⟨z2, Hz2⟩ := Qi (z + k)
 have e2 : (z : Int) + (k : Int) = (z2 : Int) := by have := Hz2.out; omega
 have hz2 : z2 <= 2000000000000 := by have := Hz2.out; omega
 have hw : IntKind.i64.wrap ((z : Int) + (k : Int)) = (z2 : Int) := by rw [e2]; exact IntWalk.i64_in _ (by omega)
 have HR2 := Qf (hR.size z2)
 have HC : Hid (Rch R P w (w.setCell ⟨R, 1, none⟩ (.int .i64 (z2 : Int)))) := Rch.set_ 1 _
 rw [Hz2.out]
 obtain ⟨E, HE⟩ := Qi (growE most z2 e)
 rw [HE.out]
 clear hR
 go_enter Try.func72, Try.ntmps72
 go_wp2_with fail
 obtain ⟨w1, HW1⟩ := Qi (w.setCell ⟨R, 1, none⟩ (.int .i64 (z2 : Int)))
 rw [HW1.out] at HR2 HC ⊢
 have g1 := HR2.out.1.cell 1
 have g2 := HR2.out.1.cell 2
 simp at g1 g2
 clear HW1 c1 f1 hw e2
 obtain ⟨b, Hb⟩ := Qi (decide (most < z2))
 have hb1 : decide ((most : Int) < (z2 : Int)) = b := by
  rw [<- Hb.out]
  by_cases h : most < z2
  . rw [decide_eq_true h, decide_eq_true (by omega)]
  . rw [decide_eq_false h, decide_eq_false (by omega)]
 cases b with
 | true =>
  have hlt : most < z2 := by simpa using Hb.out
  have eE : firstE e 2 = E := by rw [<- HE.out]; unfold growE; rw [if_pos hlt]
  go_wp2_with fail
  go_quiet (fail)
  have CF := Qf (fun W hR => fail_any R P s p z2 most e 2 W hR)
  rw [eE] at CF
  go_wp2_with fail
  refine (CF.out _ (HR2.out.drewN _)).mono ?_
  rintro r w3 ⟨rfl, hR3, hC3⟩
  have HR3 := Qf hR3
  have HC3 := Qf (HC.out.trans ((Rch.drewN _).trans hC3))
  clear hR3 hC3 CF
  go_wp2_with fail
  (try simp only [Exit.inBlock, Exit.then]); refine bodyPost_end (results_none rfl _ _ _) rfl ?_
  exact ⟨rfl, HR3.out, HC3.out⟩
 | false =>
  have hlt : ¬ most < z2 := by simpa using Hb.out
  have eE : E = e := by rw [<- HE.out]; unfold growE; rw [if_neg hlt]
  go_wp2_with fail
  go_quiet (fail)
  go_wp2_with fail
  (try simp only [Exit.inBlock, Exit.then]); refine bodyPost_end (results_none rfl _ _ _) rfl ?_
  exact ⟨rfl, by rw [eE]; exact HR2.out, HC.out.trans (Rch.drewN _)⟩
theorem symbol_err (R P : Nat) (s : ByteArray) (p z most e : Nat) (he : e ≠ 0) (t : Value) (w : World) (hR : RdAt w R P s p z most e) :
 Calls Try.prog 74 #[.pointer (some ⟨R, 0, none⟩), t] w fun r w' => r = .returned (.int .i64 0) /\ RdAt w' R P s p z most e /\ Rch R P w w' := by
 have c3 := hR.1.cell 3
 simp at c3
 have d0 : ((e : Int) != 0) = true := by simp; omega
 have HR := Qf hR
 clear hR
 go_enter Try.func74, Try.ntmps74
 go_wp2_with fail
 go_ret
 exact ⟨rfl, HR.out, Rch.refl _⟩
theorem symbol_ok (L : Nat -> Nat) (n : Nat) (hL : ∀ s, InAll L n s -> L s <= 15) (hn : n <= 400) (T g N cap : Nat) (B : Nat -> Nat -> Int) (pv pn : Nat -> Nat) (hG : Grown (bitsF L n) L (InAll L n) B N pv pn)
 (R P : Nat) (s : ByteArray) (p z most : Nat) (hs : s.size <= 100000) (hp : p <= 1000000) (hTP : T ≠ P) (hgP : g ≠ P) (w : World) (hA : TreeAt w T g N cap B) (hR : RdAt w R P s p z most 0) :
 Calls Try.prog 74 #[.pointer (some ⟨R, 0, none⟩), .pointer (some ⟨T, 0, none⟩)] w fun r w' => ∃ sym err taken : Nat, r = .returned (.int .i64 (sym : Int)) /\
  NextOut (bitsF L n) L (InAll L n) (num s / 2 ^ p) (8 * s.size) p sym err taken /\ taken <= 16 /\ RdAt w' R P s (p + taken) z most err /\ Rch R P w w' := by
 have CN := Qf (next_any (bitsF L n) L (InAll L n) T g N cap B pv pn hG hL (fun s h => by have := h.1; omega) P s p hs hp hTP hgP w hA hR.2.1)
 have c0 := hR.1.cell 0
 have c3 := hR.1.cell 3
 simp at c0 c3
 have HR := Qf hR
 clear hR hA hG
 go_enter Try.func74, Try.ntmps74
 go_wp2_with fail
 refine CN.out.mono ?_
 rintro r w1 ⟨sym, err, taken, rfl, hN, ht, hS1, hg1, _⟩
 have HN := Qf hN
 have HR1 := Qf (HR.out.read hS1 hg1)
 have HC1 : Hid (Rch R P w w1) := Rch.row hg1
 have CF := Qf (fail_any R P s (p + taken) z most 0 err w1 HR1.out)
 clear hN hS1 hg1 c0 c3 CN
 go_wp2_with fail
 refine CF.out.mono ?_
 rintro r w2 ⟨rfl, hR2, hC2⟩
 have HR2 := Qf hR2
 have HC2 := Qf (HC1.out.trans hC2)
 clear hR2 hC2 CF
 go_wp2_with fail
 go_ret
 exact ⟨sym, err, taken, rfl, HN.out, ht, HR2.out, HC2.out⟩
theorem plant_err (R P : Nat) (s : ByteArray) (p z most e : Nat) (he : e ≠ 0) (v : Value) (w : World) (hR : RdAt w R P s p z most e) :
 Calls Try.prog 73 #[.pointer (some ⟨R, 0, none⟩), v] w fun r w' => r = .returned (.pointer none) /\ RdAt w' R P s p z most e /\ Rch R P w w' := by
 have c3 := hR.1.cell 3
 simp at c3
 have d0 : ((e : Int) != 0) = true := by simp; omega
 have HR := Qf hR
 clear hR
 go_enter Try.func73, Try.ntmps73
 go_wp2_with fail
 go_ret
 exact ⟨rfl, HR.out, Rch.refl _⟩
theorem rplant_ok (a : Option Addr) (n cap : Nat) (m : Nat -> Int) (hn : n <= 320) (hm : ∀ i, i < n -> 0 <= m i /\ m i <= 15) (R P : Nat) (s : ByteArray) (p z most : Nat) (w : World) (hr : IRow w a n m) (hR : RdAt w R P s p z most 0) :
 Calls Try.prog 73 #[.pointer (some ⟨R, 0, none⟩), .slice a n cap] w fun r w' => Rch R P w w' /\
  ((¬ Fits (parts (lens m) n) (someOf (lens m) n) /\ r = .returned (.pointer none) /\ RdAt w' R P s p z most 3) \/
   (Fits (parts (lens m) n) (someOf (lens m) n) /\ ∃ (T g N cap : Nat) (B : Nat -> Nat -> Int) (pv pn : Nat -> Nat), r = .returned (.pointer (some ⟨T, 0, none⟩)) /\ w.heap.size <= T /\ w.heap.size <= g /\ TreeAt w' T g N cap B /\
    Grown (bitsF (lens m) n) (lens m) (InAll (lens m) n) B N pv pn /\ RdAt w' R P s p z most 0)) := by
 have CP := Qf (plant_any a n cap m (by omega) w hr)
 have c3 := hR.1.cell 3
 simp at c3
 have HR := Qf hR
 have Hm := Qf hm
 clear hR hr hm
 go_enter Try.func73, Try.ntmps73
 go_wp2_with fail
 refine CP.out.mono ?_
 intro r w1 h
 obtain ⟨hb, ⟨h1, rfl⟩ | ⟨h1, ⟨i, h2, h3⟩, rfl⟩ | ⟨h1, h2, h3, rfl⟩ | ⟨h1, h2, h3, T, g, N, cp, B, pv, pn, rfl, hT, hg, hA, hN, hG⟩⟩ := h
 . omega
 . exact absurd (Hm.out i h2) h3
 . have HR1 := Qf (HR.out.keep hb)
   have HC1 : Hid (Rch R P w w1) := Rch.below hb (Qa _)
   have H3 := Qf h3
   have CF := Qf (fail_any R P s p z most 0 3 w1 HR1.out)
   clear hb h1 h2 h3 CP c3
   unfold badT
   go_wp2_with fail
   refine CF.out.mono ?_
   rintro r w2 ⟨rfl, hR2, hC2⟩
   have HR2 := Qf hR2
   have HC2 := Qf (HC1.out.trans hC2)
   clear hR2 hC2 CF
   go_wp2_with fail
   go_ret
   exact ⟨HC2.out, .inl ⟨H3.out, rfl, HR2.out⟩⟩
 . have HR1 := Qf (HR.out.keep hb)
   have HC1 : Hid (Rch R P w w1) := Rch.below hb (Qa _)
   have H3 := Qf h3
   have HA := Qf hA
   have HG := Qf hG
   clear hb h1 h2 h3 CP c3 hA hG
   go_wp2_with fail
   go_ret
   exact ⟨HC1.out, .inr ⟨H3.out, T, g, N, cp, B, pv, pn, rfl, hT, hg, HA.out, HG.out, HR1.out⟩⟩
theorem xor16_of (b : Nat) (hb : b < 65536) : 65535 ^^^ b = 65535 - b := by
 apply Nat.eq_of_testBit_eq
 intro i
 rw [Nat.testBit_xor, show (65535 : Nat) - b = 2 ^ 16 - (b + 1) by omega, Nat.testBit_two_pow_sub_succ (by omega), show (65535 : Nat) = 2 ^ 16 - 1 by decide, Nat.testBit_two_pow_sub_one]
 by_cases h : i < 16
 . simp [h]
 . have : b.testBit i = false := Nat.testBit_lt_two_pow (Qb hb (by rw [show (65536 : Nat) = 2 ^ 16 by decide]; exact Nat.pow_le_pow_right (by decide) (by omega)))
   simp [h, this]
theorem xor16 (a b : Nat) (_ha : a < 65536) (hb : b < 65536) : a ^^^ b = 65535 ↔ a + b = 65535 := by
 constructor
 . intro h
   have e : a = 65535 ^^^ b := by rw [<- h, Nat.xor_assoc, Nat.xor_self, Nat.xor_zero]
   rw [xor16_of b hb] at e
   omega
 . intro h
   have e : a = 65535 - b := by omega
   rw [e, <- xor16_of b hb, Nat.xor_assoc, Nat.xor_self, Nat.xor_zero]
theorem i64_xor16 (a b : Nat) (ha : a < 65536) (hb : b < 65536) : bits .xor .i64 (a : Int) (b : Int) = ((a ^^^ b : Nat) : Int) := by
 have h := Nat.xor_lt_two_pow (n := 16) (x := a) (y := b) (by simpa using ha) (by simpa using hb)
 have h2 : (2 : Nat) ^ 16 = 65536 := by decide
 show IntKind.i64.wrap ((BitVec.ofInt 64 (a : Int) ^^^ BitVec.ofInt 64 (b : Int)).toNat : Int) = _
 rw [BitVec.toNat_xor, ofInt_u64 a (by omega), ofInt_u64 b (by omega), IntKind.wrap_i64]
 omega
def stoF (s : ByteArray) (p : Nat) : Nat := min ((p + 7) / 8) s.size
def stoT (s : ByteArray) (p k : Nat) : Nat := min (stoF s p + k) s.size
set_option maxHeartbeats 8000000 in
theorem stored_raw (R P : Nat) (s : ByteArray) (p z most e p0 v1 e1 v2 e2 e3 : Nat) (hs : s.size <= 100000) (hp : p <= 900000) (hz : z <= 1000000) (hm : most <= 1000000)
 (hp0 : (p + 7) / 8 * 8 = p0) (hv1 : bitsAt s p0 16 = v1) (he1 : bitsE s p0 16 e = e1) (hv2 : bitsAt s (p0 + 16) 16 = v2) (he2 : bitsE s (p0 + 16) 16 e1 = e2) (he3 : (if v1 ^^^ v2 = 65535 then e2 else firstE e2 3) = e3)
 (w : World) (hR : RdAt w R P s p z most e) :
 Calls Try.prog 48 #[.pointer (some ⟨R, 0, none⟩)] w fun r w' => Rch R P w w' /\
  ((e3 ≠ 0 /\ r = .returned (.string ⟨#[]⟩) /\ RdAt w' R P s (p0 + 16 + 16) z most e3) \/
   (e3 = 0 /\ r = .returned (.string (s.extract (stoF s (p0 + 16 + 16)) (stoT s (p0 + 16 + 16) v1))) /\ RdAt w' R P s ((p0 + 16 + 16 + 7) / 8 * 8 + 8 * v1) (z + v1) most (growE most (z + v1) (if stoT s (p0 + 16 + 16) v1 - stoF s (p0 + 16 + 16) < v1 then 6 else 0)))) := by
 have hp0l : p0 <= 900007 := by omega
 have hv1l : v1 < 65536 := by rw [<- hv1]; exact bitsAt_lt s p0 16 (by decide)
 have hv2l : v2 < 65536 := by rw [<- hv2]; exact bitsAt_lt s (p0 + 16) 16 (by decide)
 have hx := i64_xor16 v1 v2 hv1l hv2l
 obtain ⟨x, Hx⟩ := Qi (v1 ^^^ v2)
 rw [Hx.out] at hx he3
 have c0 := hR.1.cell 0
 simp at c0
 have CE := srcEven_any P s p (by omega) w hR.2.1
 rw [hp0] at CE
 have HCE := Qf CE
 have CB1 := fun W hR => bits_any R P s p0 z most e 16 (by decide) hs (by omega) W hR
 rw [hv1, he1] at CB1
 have CB2 := fun W hR => bits_any R P s (p0 + 16) z most e1 16 (by decide) hs (by omega) W hR
 rw [hv2, he2] at CB2
 have H1 := Qf CB1
 have H2 := Qf CB2
 have HR := Qf hR
 have He3 := Qf he3
 obtain ⟨f, Hf⟩ := Qi (stoF s (p0 + 16 + 16))
 obtain ⟨t, Ht⟩ := Qi (stoT s (p0 + 16 + 16) v1)
 obtain ⟨p3, Hp3⟩ := Qi (p0 + 16 + 16)
 have hp3 : p3 <= 900039 := by have := Hp3.out; omega
 have HT : Hid (∀ W, RdAt W R P s p3 z most 0 -> Calls Try.prog 71 #[.pointer (some ⟨P, 0, none⟩), .int .i64 (v1 : Int)] W fun r w' => r = .returned (.string (s.extract f t)) /\ RdAt w' R P s ((p3 + 7) / 8 * 8 + 8 * v1) z most 0 /\ Rch R P W w') := by
  intro W hW
  have C := srcText_any P s p3 v1 (v1 : Int) (.inr (.inl ⟨rfl, by omega⟩)) (by omega) (by omega) W hW.2.1
  have ef : min ((p3 + 7) / 8) s.size = f := by rw [<- Hf.out, Hp3.out]; rfl
  have et : min (f + v1) s.size = t := by rw [<- Ht.out, Hp3.out]; unfold stoT; rw [show stoF s p3 = f by rw [<- Hf.out, Hp3.out]]
  rw [ef, et] at C
  exact C.mono fun r w' ⟨a1, a2, a3, _⟩ => ⟨a1, hW.read a2 a3, Rch.row a3⟩
 have htf : t - f <= v1 /\ (s.extract f t).size = t - f := by
  have ef : min ((p3 + 7) / 8) s.size = f := by rw [<- Hf.out, Hp3.out]; rfl
  have et : min (f + v1) s.size = t := by rw [<- Ht.out, Hp3.out]; unfold stoT; rw [show stoF s p3 = f by rw [<- Hf.out, Hp3.out]]
  rw [ByteArray.size_extract]
  omega
 obtain ⟨tx, Htx⟩ := Qi (s.extract f t)
 obtain ⟨nf, Hnf⟩ := Qi (t - f)
 rw [Htx.out] at htf HT
 rw [Hnf.out] at htf
 obtain ⟨hnf, hsz⟩ := htf
 obtain ⟨E5, HE5⟩ := Qi (growE most (z + v1) (if nf < v1 then 6 else 0))
 obtain ⟨p5, Hp5⟩ := Qi ((p3 + 7) / 8 * 8 + 8 * v1)
 rw [Hp5.out] at HT
 rw [Hf.out, Ht.out, Hp3.out, Htx.out, Hnf.out, HE5.out, Hp5.out]
 rw [Hp3.out] at H2
 clear CE CB1 CB2 hR he3 hv1 hv2 he1 he2 hp0
 go_enter Try.func48, Try.ntmps48
 go_wp2_with fail
 refine HCE.out.mono ?_
 rintro r w1 ⟨rfl, hS1, hg1, _⟩
 have HR1 := Qf (HR.out.read hS1 hg1)
 have HC1 : Hid (Rch R P w w1) := Rch.row hg1
 clear hS1 hg1 c0
 go_wp2_with fail
 refine (H1.out _ HR1.out).mono ?_
 rintro r w2 ⟨rfl, hR2, hC2⟩
 have HR2 := Qf hR2
 have HC2 := Qf (HC1.out.trans hC2)
 clear hR2 hC2 HR1 HC1
 go_wp2_with fail
 refine (H2.out _ HR2.out).mono ?_
 rintro r w3 ⟨rfl, hR3, hC3⟩
 have HR3 := Qf hR3
 have HC3 := Qf (HC2.out.trans hC3)
 clear hR3 hC3 HR2 HC2
 by_cases hX : x = 65535
 . have dx : ((x : Int) != 65535) = false := by simp; omega
   have e3e : e2 = e3 := by have := He3.out; rwa [if_pos hX] at this
   subst e3e
   have c3 := HR3.out.1.cell 3
   have c0 := HR3.out.1.cell 0
   simp at c3 c0
   by_cases h0 : e2 = 0
   . subst h0
     have dt : decide ((nf : Int) < (v1 : Int)) = decide (nf < v1) := by
      by_cases h : nf < v1
      . rw [decide_eq_true h, decide_eq_true (by omega)]
      . rw [decide_eq_false h, decide_eq_false (by omega)]
     go_wp2_with fail
     refine (HT.out _ HR3.out).mono ?_
     rintro r w4 ⟨rfl, hR4, hC4⟩
     have HR4 := Qf hR4
     have HC4 := Qf (HC3.out.trans hC4)
     clear hR4 hC4 HR3 HC3 c3 c0
     by_cases hl : nf < v1
     . have dl : decide ((nf : Int) < (v1 : Int)) = true := Qg (by omega)
       have dl2 : decide (nf < v1) = true := Qg (by omega)
       have E5e : growE most (z + v1) 6 = E5 := by have := HE5.out; rwa [if_pos hl] at this
       clear dt
       go_wp2_with fail
       refine (fail_any R P s p5 z most 0 6 w4 HR4.out).mono ?_
       rintro r w5 ⟨rfl, hR5, hC5⟩
       have HR5 : Hid (RdAt w5 R P s p5 z most 6) := hR5
       have HC5 := Qf (HC4.out.trans hC5)
       clear hR5 hC5 HR4 HC4
       go_wp2_with fail
       refine (grow_any R P s p5 z most 6 v1 (by omega) hm (by omega) w5 HR5.out).mono ?_
       rintro r w6 ⟨rfl, hR6, hC6⟩
       rw [E5e] at hR6
       have HR6 := Qf hR6
       have HC6 := Qf (HC5.out.trans hC6)
       clear hR6 hC6 HR5 HC5
       go_wp2_with fail
       go_ret
       first | exact ⟨HC6.out, .inr ⟨rfl, rfl, HR6.out⟩⟩ | exact ⟨HC6.out, rfl, HR6.out⟩
     . have dl : decide ((nf : Int) < (v1 : Int)) = false := Qh (by omega)
       have dl2 : decide (nf < v1) = false := Qh (by omega)
       have E5e : growE most (z + v1) 0 = E5 := by have := HE5.out; rwa [if_neg hl] at this
       clear dt
       go_wp2_with fail
       refine (grow_any R P s p5 z most 0 v1 (by omega) hm (by omega) w4 HR4.out).mono ?_
       rintro r w6 ⟨rfl, hR6, hC6⟩
       rw [E5e] at hR6
       have HR6 := Qf hR6
       have HC6 := Qf (HC4.out.trans hC6)
       clear hR6 hC6 HR4 HC4
       go_wp2_with fail
       go_ret
       first | exact ⟨HC6.out, .inr ⟨rfl, rfl, HR6.out⟩⟩ | exact ⟨HC6.out, rfl, HR6.out⟩
   . have d0 : ((e2 : Int) != 0) = true := by simp; omega
     go_wp2_with fail
     go_ret
     exact ⟨HC3.out, .inl ⟨h0, rfl, HR3.out⟩⟩
 . have dx : ((x : Int) != 65535) = true := by simp; omega
   have e3e : firstE e2 3 = e3 := by have := He3.out; rwa [if_neg hX] at this
   have h0 : e3 ≠ 0 := by rw [<- e3e]; unfold firstE; split <;> omega
   have d0 : ((e3 : Int) != 0) = true := by simp; omega
   go_wp2_with fail
   refine (fail_any R P s p3 z most e2 3 w3 HR3.out).mono ?_
   rintro r w4 ⟨rfl, hR4, hC4⟩
   rw [e3e] at hR4
   have c3 := hR4.1.cell 3
   simp at c3
   have HR4 := Qf hR4
   have HC4 := Qf (HC3.out.trans hC4)
   clear hR4 hC4 HR3 HC3
   go_wp2_with fail
   go_ret
   exact ⟨HC4.out, .inl ⟨h0, rfl, HR4.out⟩⟩
def sg (s : ByteArray) (p z : Nat) : Sg := ⟨num s / 2 ^ p, 8 * s.size - p, z⟩
theorem bits_sg (s : ByteArray) (p z k : Nat) (hp : p + k <= 8 * s.size) : bitsM k (sg s p z) = .ok (bitsAt s p k, sg s (p + k) z) := by
 unfold bitsM sg
 have h : ¬ 8 * s.size - p < k := by omega
 rw [if_neg h]
 unfold bitsAt
 have e1 : num s / 2 ^ p / 2 ^ k = num s / 2 ^ (p + k) := by rw [Nat.div_div_eq_div_mul, <- Nat.pow_add]
 have e2 : 8 * s.size - p - k = 8 * s.size - (p + k) := by omega
 rw [e1, e2]
theorem bits_sg_short (s : ByteArray) (p z k : Nat) (hp : p <= 8 * s.size) (hk : 8 * s.size < p + k) : bitsM k (sg s p z) = .error 6 := by
 unfold bitsM sg
 have h : 8 * s.size - p < k := by omega
 rw [if_pos h]
theorem even_sg (s : ByteArray) (p z : Nat) (hp : p <= 8 * s.size) : evenM (sg s p z) = sg s ((p + 7) / 8 * 8) z /\ (p + 7) / 8 * 8 <= 8 * s.size := by
 refine ⟨?_, by omega⟩
 unfold evenM sg
 have e0 : (8 * s.size - p) % 8 = (p + 7) / 8 * 8 - p := by omega
 have e1 : num s / 2 ^ p / 2 ^ ((p + 7) / 8 * 8 - p) = num s / 2 ^ ((p + 7) / 8 * 8) := by
  rw [Nat.div_div_eq_div_mul, <- Nat.pow_add, show p + ((p + 7) / 8 * 8 - p) = (p + 7) / 8 * 8 by omega]
 have e2 : 8 * s.size - p - ((p + 7) / 8 * 8 - p) = 8 * s.size - (p + 7) / 8 * 8 := by omega
 simp only [e0]
 rw [e1, e2]
theorem bytesX_at (s : ByteArray) (k : Nat) : ∀ q, q + k <= s.size -> bytesX (num s / 2 ^ (8 * q)) k = ((s.data.toList).drop q).take k := by
 induction k with
 | zero => intro q _; rfl
 | succ k ih =>
  intro q hq
  have hlt : q < s.size := by omega
  have h1 := num_byte s q hlt
  have e1 : num s / 2 ^ (8 * q) % 256 = (s[q]).toNat := by
   rw [Nat.pow_mul, show (2 : Nat) ^ 8 = 256 by decide]
   exact h1
  have e2 : num s / 2 ^ (8 * q) / 256 = num s / 2 ^ (8 * (q + 1)) := by
   rw [Nat.div_div_eq_div_mul, show (256 : Nat) = 2 ^ 8 by decide, <- Nat.pow_add]
   congr 2
  show UInt8.ofNat (num s / 2 ^ (8 * q) % 256) :: bytesX (num s / 2 ^ (8 * q) / 256) k = _
  have hd := List.drop_eq_getElem_cons (l := s.data.toList) (i := q) (by simpa using hlt)
  rw [e1, e2, ih (q + 1) (by omega), hd, List.take_succ_cons]
  congr 1
  simp
  rfl
theorem extract_list (s : ByteArray) (a b : Nat) : s.extract a b = ⟨(((s.data.toList).drop a).take (b - a)).toArray⟩ := by
 apply ByteArray.ext
 rw [ByteArray.data_extract]
 apply Array.ext'
 rw [Array.toList_extract, List.extract_eq_take_drop]
theorem stored_err (R P : Nat) (s : ByteArray) (p z most e : Nat) (he : e ≠ 0) (hs : s.size <= 100000) (hp : p <= 900000) (hz : z <= 1000000) (hm : most <= 1000000) (w : World) (hR : RdAt w R P s p z most e) :
 Calls Try.prog 48 #[.pointer (some ⟨R, 0, none⟩)] w fun r w' => Rch R P w w' /\ (∃ t, r = .returned (.string t)) /\ ∃ p', RdAt w' R P s p' z most e := by
 have h1 : ∀ a k, bitsE s a k e = e := fun a k => by unfold bitsE firstE; split <;> first | rfl | rw [if_neg he]
 refine (stored_raw R P s p z most e _ _ _ _ _ _ hs hp hz hm rfl rfl rfl rfl rfl rfl w hR).mono ?_
 rintro r w' ⟨hc, hh⟩
 simp only [h1] at hh
 have h2 : ∀ a : Nat, (if a = 65535 then e else firstE e 3) = e := fun a => by split <;> simp [firstE, he]
 simp only [h2] at hh
 rcases hh with ⟨_, a2, a3⟩ | ⟨a1, _⟩
 . exact ⟨hc, ⟨_, a2⟩, _, a3⟩
 . exact absurd a1 he
def RdRes (w' : World) (R P : Nat) (s : ByteArray) (most : Nat) {α : Type} (res : Rs α) (val : α -> Prop) : Prop :=
 (∃ e p z, res = .error e /\ e ≠ 0 /\ RdAt w' R P s p z most e) \/ (∃ a p z, res = .ok (a, sg s p z) /\ p <= 8 * s.size /\ z <= most /\ RdAt w' R P s p z most 0 /\ val a)
theorem stored_m (R P : Nat) (s : ByteArray) (p z most : Nat) (hs : s.size <= 100000) (hp : p <= 8 * s.size) (hz : z <= most) (hm : most <= 1000000) (w : World) (hR : RdAt w R P s p z most 0) :
 Calls Try.prog 48 #[.pointer (some ⟨R, 0, none⟩)] w fun r w' => Rch R P w w' /\ (∃ t, r = .returned (.string t)) /\ RdRes w' R P s most (storedM most (sg s p z)) (fun l => r = .returned (.string ⟨l.toArray⟩)) := by
 refine (stored_raw R P s p z most 0 _ _ _ _ _ _ hs (by omega) (by omega) hm rfl rfl rfl rfl rfl rfl w hR).mono ?_
 rintro r w' ⟨hc, hh⟩
 obtain ⟨he, hp0⟩ := even_sg s p z hp
 obtain ⟨p0, Hp0⟩ : ∃ p0, (p + 7) / 8 * 8 = p0 := ⟨_, rfl⟩
 have hp8 : p0 % 8 = 0 := by omega
 simp only [Hp0] at hh he hp0
 unfold storedM
 rw [he]
 by_cases h1 : 8 * s.size < p0 + 16
 . rw [bits_sg_short s p0 z 16 hp0 h1]
   have e1 : bitsE s p0 16 0 = 6 := by unfold bitsE; rw [if_pos h1]; rfl
   have e2 : bitsE s (p0 + 16) 16 6 = 6 := by unfold bitsE firstE; split <;> rfl
   simp only [e1, e2] at hh
   have h2 : ∀ a : Nat, (if a = 65535 then 6 else firstE 6 3) = 6 := fun a => by split <;> rfl
   simp only [h2] at hh
   rcases hh with ⟨_, a2, a3⟩ | ⟨a1, _⟩
   . exact ⟨hc, ⟨_, a2⟩, .inl ⟨6, _, _, rfl, by decide, a3⟩⟩
   . exact absurd a1 (by decide)
 . rw [bits_sg s p0 z 16 (by omega), thenR_ok]
   have e1 : bitsE s p0 16 0 = 0 := by unfold bitsE; rw [if_neg h1]
   simp only [e1] at hh
   by_cases h2 : 8 * s.size < p0 + 16 + 16
   . rw [bits_sg_short s (p0 + 16) z 16 (by omega) h2]
     have e2 : bitsE s (p0 + 16) 16 0 = 6 := by unfold bitsE; rw [if_pos h2]; rfl
     simp only [e2] at hh
     have h3 : ∀ a : Nat, (if a = 65535 then 6 else firstE 6 3) = 6 := fun a => by split <;> rfl
     simp only [h3] at hh
     rcases hh with ⟨_, a2, a3⟩ | ⟨a1, _⟩
     . exact ⟨hc, ⟨_, a2⟩, .inl ⟨6, _, _, rfl, by decide, a3⟩⟩
     . exact absurd a1 (by decide)
   . rw [bits_sg s (p0 + 16) z 16 (by omega), thenR_ok]
     have e2 : bitsE s (p0 + 16) 16 0 = 0 := by unfold bitsE; rw [if_neg h2]
     simp only [e2] at hh
     have hv1l := bitsAt_lt s p0 16 (by decide)
     have hv2l := bitsAt_lt s (p0 + 16) 16 (by decide)
     obtain ⟨v1, Hv1⟩ : ∃ v, bitsAt s p0 16 = v := ⟨_, rfl⟩
     obtain ⟨v2, Hv2⟩ : ∃ v, bitsAt s (p0 + 16) 16 = v := ⟨_, rfl⟩
     simp only [Hv1, Hv2] at hh hv1l hv2l ⊢
     have hx := xor16 v1 v2 hv1l hv2l
     by_cases h3 : v1 ^^^ v2 = 65535
     . have h3b : ¬ (v1 + v2 ≠ 65535) := fun h => h (hx.1 h3)
       rw [if_neg h3b]
       rw [if_pos h3] at hh
       rcases hh with ⟨a1, _⟩ | ⟨_, a2, a3⟩
       . exact absurd rfl a1
       . refine ⟨hc, ⟨_, a2⟩, ?_⟩
         have ep : (p0 + 16 + 16 + 7) / 8 * 8 = p0 + 16 + 16 := by omega
         obtain ⟨q, hq⟩ : ∃ q, p0 + 16 + 16 = 8 * q := ⟨(p0 + 16 + 16) / 8, by omega⟩
         have hqs : q <= s.size := by omega
         rw [hq] at a2 a3 ep h2 ⊢
         rw [ep] at a3
         have ef : stoF s (8 * q) = q := by unfold stoF; omega
         have et : stoT s (8 * q) v1 = min (q + v1) s.size := by unfold stoT; rw [ef]
         rw [ef, et] at a2 a3
         by_cases h4 : s.size < q + v1
         . have h5 : (sg s (8 * q) z).n < 8 * v1 := by show 8 * s.size - 8 * q < 8 * v1; omega
           rw [if_pos h5]
           have e3 : min (q + v1) s.size - q < v1 := by omega
           rw [if_pos e3] at a3
           have e4 : growE most (z + v1) 6 = 6 := by unfold growE firstE; split <;> rfl
           rw [e4] at a3
           exact .inl ⟨6, _, _, rfl, by decide, a3⟩
         . have h5 : ¬ (sg s (8 * q) z).n < 8 * v1 := by show ¬ 8 * s.size - 8 * q < 8 * v1; omega
           rw [if_neg h5]
           have e3 : ¬ min (q + v1) s.size - q < v1 := by omega
           rw [if_neg e3] at a3
           unfold growM
           have e5 : (sg s (8 * q) z).out = z := rfl
           simp only [e5]
           by_cases h6 : most < z + v1
           . rw [if_pos h6, thenR_err]
             have e4 : growE most (z + v1) 0 = 2 := by unfold growE; rw [if_pos h6]; rfl
             rw [e4] at a3
             exact .inl ⟨2, _, _, rfl, by decide, a3⟩
           . rw [if_neg h6, thenR_ok]
             have e4 : growE most (z + v1) 0 = 0 := by unfold growE; rw [if_neg h6]
             rw [e4] at a3
             refine .inr ⟨bytesX (sg s (8 * q) z).X v1, 8 * q + 8 * v1, z + v1, ?_, by omega, by omega, a3, ?_⟩
             . have e7 : (sg s (8 * q) z).X = num s / 2 ^ (8 * q) := rfl
               have e8 : (sg s (8 * q) z).n = 8 * s.size - 8 * q := rfl
               unfold sg
               congr 2
               . simp only [Sg.mk.injEq]
                 refine ⟨?_, by omega, trivial⟩
                 rw [Nat.div_div_eq_div_mul, <- Nat.pow_add]
             . have e7 : (sg s (8 * q) z).X = num s / 2 ^ (8 * q) := rfl
               rw [a2, extract_list, e7, bytesX_at s v1 q (by omega), show min (q + v1) s.size - q = v1 by omega]
     . have h3b : v1 + v2 ≠ 65535 := fun h => h3 (hx.2 h)
       rw [if_pos h3b]
       rw [if_neg h3] at hh
       rcases hh with ⟨_, a2, a3⟩ | ⟨a1, _⟩
       . exact ⟨hc, ⟨_, a2⟩, .inl ⟨3, _, _, rfl, by decide, a3⟩⟩
       . exact absurd a1 (by decide)
theorem symM_ok {L : Nat -> Nat} {c : Nat} (h15 : ∀ i, i < c -> L i <= 15) {σ : Sg} {a t : Nat} (h : NextOut (bitsF L c) L (InAll L c) σ.X σ.n 0 a 0 t) : symM L c σ = .ok (a, ⟨σ.X / 2 ^ t, σ.n - t, σ.out⟩) := by
 unfold symM
 rw [nextR_of L c h15 h]
 rfl
theorem symM_error {L : Nat -> Nat} {c : Nat} (h15 : ∀ i, i < c -> L i <= 15) {σ : Sg} {a e t : Nat} (he : e ≠ 0) (h : NextOut (bitsF L c) L (InAll L c) σ.X σ.n 0 a e t) : symM L c σ = .error e := by
 unfold symM
 rw [nextR_of L c h15 h, if_neg he]
theorem bytesX_mod (k : Nat) : ∀ X r, 8 * k <= r -> bytesX (X % 2 ^ r) k = bytesX X k := by
 induction k with
 | zero => intro X r _; rfl
 | succ k ih =>
  intro X r hr
  obtain ⟨q, rfl⟩ : ∃ q, r = 8 + q := ⟨r - 8, by omega⟩
  have e1 : X % 2 ^ (8 + q) % 256 = X % 256 := by
   rw [Nat.pow_add]
   exact Nat.mod_mod_of_dvd _ ⟨2 ^ q, rfl⟩
  have e2 : X % 2 ^ (8 + q) / 256 = X / 256 % 2 ^ q := by
   rw [Nat.pow_add, show (2 : Nat) ^ 8 = 256 by decide, Nat.mod_mul_right_div_self]
  show UInt8.ofNat (X % 2 ^ (8 + q) % 256) :: bytesX (X % 2 ^ (8 + q) / 256) k = UInt8.ofNat (X % 256) :: bytesX (X / 256) k
  rw [e1, e2, ih _ _ (by omega)]
noncomputable def inflR (u : ByteArray) (most : Nat) : Rs (List Bk) := blocksM most (8 * u.size + 1) (sg u 0 0) []
theorem infl_out {u : ByteArray} {most : Nat} {bs : List Bk} {σ : Sg} (h : inflR u most = .ok (bs, σ)) : blksOK 0 bs /\ σ.out = blenS bs /\ σ.out <= most /\ (joinL [] bs).length = σ.out := by
 obtain ⟨c, h1, h2, h3, h4⟩ := blocksM_ok _ h (Nat.zero_le _)
 rw [List.nil_append] at h1
 subst h1
 have h5 : σ.out = blenS bs := by rw [h3]; exact Nat.zero_add _
 exact ⟨h2, h5, h4, by rw [joinL_len, h5]; exact Nat.zero_add _⟩
theorem blocksM_count {most : Nat} : ∀ (f : Nat) {σ σ' : Sg} {bs bs' : List Bk}, blocksM most f σ bs = .ok (bs', σ') -> bs'.length + σ'.n <= bs.length + σ.n := by
 intro f
 induction f with
 | zero => intro σ σ' bs bs' h; cases h
 | succ f ih =>
  intro σ σ' bs bs' h
  obtain ⟨r, σ1, h1, h⟩ := thenR_inv (x := blockM most σ) h
  have hl := blockM_less h1
  split at h
  . have := ih h
    rw [List.length_append] at this
    have e : [r.2].length = 1 := rfl
    omega
  . injection h with h; injection h with h2 h; subst h; subst h2
    rw [List.length_append]
    have e : [r.2].length = 1 := rfl
    omega
theorem toks_count (S : List Tok) : ∀ n, toksOK n S -> S.length <= tlenS S := by
 induction S with
 | nil => intro n _; exact Qa _
 | cons t r ih =>
  intro n h
  have h1 := ih _ h.2
  have h2 : 1 <= tlen t := by
   unfold tlen
   split
   . exact Qa _
   . rcases h.1 with h | ⟨h, _⟩
     . contradiction
     . omega
  show r.length + 1 <= tlen t + tlenS r
  omega
theorem blks_count (bs : List Bk) : ∀ n, blksOK n bs -> ∀ b ∈ bs, b.toks.length <= blenS bs := by
 induction bs with
 | nil => intro n _ b hb; cases hb
 | cons x r ih =>
  intro n h b hb
  show _ <= (x.bytes.length + tlenS x.toks) + blenS r
  rcases List.mem_cons.1 hb with rfl | hb
  . have := toks_count _ _ h.1
    omega
  . have := ih _ h.2 b hb
    omega
theorem rev_div (X : Nat) (d : Nat) : ∀ m, rev X (m + d) / 2 ^ d = rev X m := by
 induction d with
 | zero => intro m; simp
 | succ d ih =>
  intro m
  have e : rev X (m + (d + 1)) = 2 * rev X (m + d) + X / 2 ^ (m + d) % 2 := rfl
  have e2 : (2 : Nat) ^ (d + 1) = 2 * 2 ^ d := by rw [Nat.pow_succ, Nat.mul_comm]
  rw [e, e2, <- Nat.div_div_eq_div_mul, show (2 * rev X (m + d) + X / 2 ^ (m + d) % 2) / 2 = rev X (m + d) by omega]
  exact ih m
theorem next_code {F L : Nat -> Nat} {In : Nat -> Prop} {X nb s t : Nat} (hs : In s) (ht : L s = t) (h1 : 1 <= t) (hn : t <= nb) (hF : F s = rev X t) : NextOut F L In X nb 0 s 0 t := by
 refine ⟨h1, fun m a b => ⟨by omega, s, hs, ⟨by omega, ?_⟩, by omega⟩, .inr (.inr ⟨by omega, hs, ht, hF, rfl⟩)⟩
 obtain ⟨d, rfl⟩ : ∃ d, t = m + d := ⟨t - m, by omega⟩
 rw [hF, ht, show m + d - m = d by omega, rev_div]
theorem symM_code {L : Nat -> Nat} {c : Nat} (h15 : ∀ i, i < c -> L i <= 15) {σ : Sg} {s t : Nat} (hs : s < c) (ht : L s = t) (h1 : 1 <= t) (hn : t <= σ.n) (hF : bitsF L c s = rev σ.X t) : symM L c σ = .ok (s, ⟨σ.X / 2 ^ t, σ.n - t, σ.out⟩) :=
 symM_ok h15 (next_code ⟨hs, by omega⟩ ht h1 hn hF)
theorem fix15 : ∀ i, i < 288 -> lens fixL i <= 15 := lens_15 _ _ fixL_15
theorem five15 : ∀ i, i < 32 -> lens (fun _ => 5) i <= 15 := lens_15 _ _ fun _ => by decide
theorem fit_fix (σ : Sg) : fitM fixL 288 σ = .ok ((), σ) := by
 unfold fitM checkM
 rw [if_pos (by decide +kernel)]
theorem fit_five (σ : Sg) : fitM (fun _ => 5) 32 σ = .ok ((), σ) := by
 unfold fitM checkM
 rw [if_pos (by decide +kernel)]
theorem tokensM_fix (most : Nat) (σ : Sg) : tokensM fixL 288 (fun _ => 5) 32 most σ = tokM (lens fixL) 288 (lens fun _ => 5) 32 most (σ.n + 1) σ [] := by
 unfold tokensM
 rw [fit_fix, thenR_ok, fit_five, thenR_ok]
def encV : List (Nat × Nat) -> Nat
 | [] => 0
 | x :: r => x.1 % 2 ^ x.2 + 2 ^ x.2 * encV r
def encN : List (Nat × Nat) -> Nat
 | [] => 0
 | x :: r => x.2 + encN r
theorem encN_app (a b : List (Nat × Nat)) : encN (a ++ b) = encN a + encN b := by
 induction a with
 | nil => simp [encN]
 | cons x r ih => simp only [List.cons_append, encN, ih]; omega
theorem encV_app (a b : List (Nat × Nat)) : encV (a ++ b) = encV a + 2 ^ encN a * encV b := by
 induction a with
 | nil => simp [encV, encN]
 | cons x r ih => simp only [List.cons_append, encV, encN, ih, Nat.mul_add, Nat.pow_add, Nat.mul_assoc, Nat.add_assoc]
theorem encV_lt (a : List (Nat × Nat)) : encV a < 2 ^ encN a := by
 induction a with
 | nil => decide
 | cons x r ih =>
  simp only [encV, encN, Nat.pow_add]
  have h1 : x.1 % 2 ^ x.2 < 2 ^ x.2 := Nat.mod_lt _ (pow_pos2 _)
  have h2 := Nat.mul_le_mul_left (2 ^ x.2) (show encV r + 1 <= 2 ^ encN r from ih)
  rw [Nat.mul_add, Nat.mul_one] at h2
  omega
theorem encV_snoc (a : List (Nat × Nat)) (x k : Nat) : encV (a ++ [(x, k)]) = encV a + x % 2 ^ k * 2 ^ encN a := by
 rw [encV_app]
 simp only [encV, Nat.mul_zero, Nat.add_zero]
 rw [Nat.mul_comm]
theorem encN_snoc (a : List (Nat × Nat)) (x k : Nat) : encN (a ++ [(x, k)]) = encN a + k := by
 rw [encN_app]; rfl
def rd (l : List (Nat × Nat)) (Y m out : Nat) : Sg := ⟨encV l + 2 ^ encN l * Y, encN l + m, out⟩
theorem rd_cons (x k : Nat) (l : List (Nat × Nat)) (Y m out : Nat) : rd ((x, k) :: l) Y m out = ⟨x % 2 ^ k + 2 ^ k * (encV l + 2 ^ encN l * Y), k + (encN l + m), out⟩ := by
 unfold rd
 simp only [encV, encN, Nat.pow_add, Nat.mul_add, Nat.mul_assoc, Nat.add_assoc]
theorem rd_out (l : List (Nat × Nat)) (Y m out : Nat) : (rd l Y m out).out = out := rfl
theorem rd_n (l : List (Nat × Nat)) (Y m out : Nat) : (rd l Y m out).n = encN l + m := rfl
theorem head_div (x k Z : Nat) : (x % 2 ^ k + 2 ^ k * Z) / 2 ^ k = Z := by
 rw [Nat.add_mul_div_left _ _ (pow_pos2 k), Nat.div_eq_of_lt (Nat.mod_lt _ (pow_pos2 k)), Nat.zero_add]
theorem head_mod (x k Z : Nat) : (x % 2 ^ k + 2 ^ k * Z) % 2 ^ k = x % 2 ^ k := by
 rw [Nat.add_mul_mod_self_left, Nat.mod_mod]
theorem bits_rd (x k : Nat) (l : List (Nat × Nat)) (Y m out : Nat) : bitsM k (rd ((x, k) :: l) Y m out) = .ok (x % 2 ^ k, rd l Y m out) := by
 rw [rd_cons]
 unfold bitsM
 rw [if_neg (by show ¬ k + (encN l + m) < k; omega)]
 show Except.ok ((x % 2 ^ k + 2 ^ k * (encV l + 2 ^ encN l * Y)) % 2 ^ k, (⟨(x % 2 ^ k + 2 ^ k * (encV l + 2 ^ encN l * Y)) / 2 ^ k, k + (encN l + m) - k, out⟩ : Sg)) = _
 rw [head_div, head_mod, Nat.add_sub_cancel_left]
 rfl
theorem bits_rd' {x k : Nat} (h : x < 2 ^ k) (l : List (Nat × Nat)) (Y m out : Nat) : bitsM k (rd ((x, k) :: l) Y m out) = .ok (x, rd l Y m out) := by
 rw [bits_rd, Nat.mod_eq_of_lt h]
def symE (L : Nat -> Nat) (c s : Nat) : Nat × Nat := (rev (bitsF L c s) (L s), L s)
theorem bitsF_lt (L : Nat -> Nat) (c s : Nat) (hs : s < c) (h15 : ∀ i, i < c -> L i <= 15) (hp : parts L c <= 32768) : bitsF L c s < 2 ^ L s := by
 unfold bitsF
 by_cases h : 0 < L s
 . rw [if_pos h]; exact code_fits L c s hs h (h15 s hs) hp
 . rw [if_neg h]; exact pow_pos2 _
theorem sym_rd {L : Nat -> Nat} {c s : Nat} (h15 : ∀ i, i < c -> L i <= 15) (hp : parts L c <= 32768) (hs : s < c) (h1 : 0 < L s) (l : List (Nat × Nat)) (Y m out : Nat) : symM L c (rd (symE L c s :: l) Y m out) = .ok (s, rd l Y m out) := by
 unfold symE
 rw [rd_cons]
 have hb := bitsF_lt L c s hs h15 hp
 have hr : bitsF L c s = rev (rev (bitsF L c s) (L s) % 2 ^ L s + 2 ^ L s * (encV l + 2 ^ encN l * Y)) (L s) := by
  rw [<- rev_mod _ (L s) (L s) (Qa _), head_mod, rev_mod _ _ _ (Qa _), rev_rev, Nat.mod_eq_of_lt hb]
 rw [symM_code (t := L s) h15 hs rfl h1 (by show L s <= L s + _; omega) hr]
 show Except.ok (s, (⟨(rev (bitsF L c s) (L s) % 2 ^ L s + 2 ^ L s * (encV l + 2 ^ encN l * Y)) / 2 ^ L s, L s + (encN l + m) - L s, out⟩ : Sg)) = _
 rw [head_div, Nat.add_sub_cancel_left]
 rfl
def symF (far : Bool) (n : Nat) : Nat -> Nat
 | 0 => 0
 | k + 1 => if 0 < (sizeS far (k : Int)).1 /\ (sizeS far (k : Int)).1 <= n then k else symF far n k
theorem size_len (k : Nat) (h : k <= 27) : sizeS false (k : Int) = ((stepS 4 3 k).1, moreS 4 3 k) := by
 unfold sizeS
 rw [if_neg (by decide), if_neg (by omega), if_neg (by omega)]
 rfl
theorem size_dist (k : Nat) (h : k <= 29) : sizeS true (k : Int) = ((stepS 2 1 k).1, moreS 2 1 k) := by
 unfold sizeS
 rw [if_pos rfl, if_neg (by omega)]
 rfl
theorem symF_spec (far : Bool) (n : Nat) (h0 : 0 < (sizeS far 0).1 /\ (sizeS far 0).1 <= n) : ∀ k, symF far n (k + 1) <= k /\ (0 < (sizeS far (symF far n (k + 1) : Nat)).1 /\ (sizeS far (symF far n (k + 1) : Nat)).1 <= n) /\ ∀ j : Nat, symF far n (k + 1) < j -> j <= k -> ¬ (0 < (sizeS far (j : Int)).1 /\ (sizeS far (j : Int)).1 <= n) := by
 intro k
 induction k with
 | zero =>
  have e : symF far n 1 = 0 := by
   show (if _ then _ else _) = _
   split <;> rfl
  rw [e]
  exact ⟨Qa _, h0, fun j h1 h2 => by omega⟩
 | succ k ih =>
  by_cases hk : 0 < (sizeS far ((k + 1 : Nat) : Int)).1 /\ (sizeS far ((k + 1 : Nat) : Int)).1 <= n
  . have e : symF far n (k + 1 + 1) = k + 1 := if_pos hk
    rw [e]
    exact ⟨Qa _, hk, fun j h1 h2 => by omega⟩
  . have e : symF far n (k + 1 + 1) = symF far n (k + 1) := if_neg hk
    rw [e]
    refine ⟨by omega, ih.2.1, fun j h1 h2 => ?_⟩
    by_cases ej : j = k + 1
    . rw [ej]; exact hk
    . exact ih.2.2 j h1 (by omega)
theorem step_pos : ∀ k, k <= 29 -> 0 < (stepS 4 3 k).1 /\ 0 < (stepS 2 1 k).1 := by decide
theorem len_size (n : Nat) (h3 : 3 <= n) (h258 : n <= 258) : symF false n 29 <= 28 /\ (sizeS false (symF false n 29 : Nat)).1 <= n /\ n - (sizeS false (symF false n 29 : Nat)).1 < 2 ^ (sizeS false (symF false n 29 : Nat)).2 := by
 obtain ⟨h1, ⟨_, h2⟩, h4⟩ := symF_spec false n ⟨by decide, by show 3 <= n; exact h3⟩ 28
 obtain ⟨i, hi⟩ : ∃ i, symF false n 29 = i := ⟨_, rfl⟩
 rw [show 28 + 1 = 29 from rfl, hi] at h1 h2 h4
 rw [hi]
 refine ⟨h1, h2, ?_⟩
 by_cases e28 : i = 28
 . subst e28
   have e1 : (sizeS false ((28 : Nat) : Int)) = (258, 0) := by decide
   rw [e1] at h2 ⊢
   show n - 258 < 2 ^ 0
   omega
 . rw [size_len i (by omega)] at h2 ⊢
   by_cases e27 : i = 27
   . subst e27
     have e1 : (stepS 4 3 27).1 = 227 := by decide
     have e2 : moreS 4 3 27 = 5 := by decide
     have := h4 28 (by omega) (by omega)
     have e3 : (sizeS false ((28 : Nat) : Int)) = (258, 0) := by decide
     rw [e3] at this
     show n - (stepS 4 3 27).1 < 2 ^ moreS 4 3 27
     rw [e1, e2]
     have : ¬ (258 <= n) := fun h => this ⟨by decide, h⟩
     omega
   . have := h4 (i + 1) (by omega) (by omega)
     rw [size_len (i + 1) (by omega), stepS_succ] at this
     have hp := (step_pos i (by omega)).1
     have : ¬ ((stepS 4 3 i).1 + 2 ^ moreS 4 3 i <= n) := fun h => this ⟨by have := pow_pos2 (moreS 4 3 i); show 0 < (stepS 4 3 i).1 + 2 ^ moreS 4 3 i; omega, h⟩
     show n - (stepS 4 3 i).1 < 2 ^ moreS 4 3 i
     have : (stepS 4 3 i).1 <= n := h2
     omega
theorem dist_size (n : Nat) (h1n : 1 <= n) (hn : n <= 32768) : symF true n 30 <= 29 /\ (sizeS true (symF true n 30 : Nat)).1 <= n /\ n - (sizeS true (symF true n 30 : Nat)).1 < 2 ^ (sizeS true (symF true n 30 : Nat)).2 := by
 obtain ⟨h1, ⟨_, h2⟩, h4⟩ := symF_spec true n ⟨by decide, by show 1 <= n; exact h1n⟩ 29
 obtain ⟨i, hi⟩ : ∃ i, symF true n 30 = i := ⟨_, rfl⟩
 rw [show 29 + 1 = 30 from rfl, hi] at h1 h2 h4
 rw [hi]
 refine ⟨h1, h2, ?_⟩
 rw [size_dist i (by omega)] at h2 ⊢
 by_cases e29 : i = 29
 . subst e29
   have e1 : (stepS 2 1 29).1 = 24577 := by decide
   have e2 : moreS 2 1 29 = 13 := by decide
   show n - (stepS 2 1 29).1 < 2 ^ moreS 2 1 29
   rw [e1, e2]
   omega
 . have := h4 (i + 1) (by omega) (by omega)
   rw [size_dist (i + 1) (by omega), stepS_succ] at this
   have : ¬ ((stepS 2 1 i).1 + 2 ^ moreS 2 1 i <= n) := fun h => this ⟨by have := pow_pos2 (moreS 2 1 i); show 0 < (stepS 2 1 i).1 + 2 ^ moreS 2 1 i; omega, h⟩
   show n - (stepS 2 1 i).1 < 2 ^ moreS 2 1 i
   have : (stepS 2 1 i).1 <= n := h2
   omega
def lsym (t : Tok) : Nat := symF false t.l.toNat 29
def dsym (t : Tok) : Nat := symF true t.d.toNat 30
def tokE (L : Nat -> Nat) (c : Nat) (D : Nat -> Nat) (d : Nat) (t : Tok) : List (Nat × Nat) :=
 if t.l = 0 then [symE L c t.b.toNat]
 else [symE L c (257 + lsym t), (t.l.toNat - (sizeS false (lsym t : Nat)).1, (sizeS false (lsym t : Nat)).2), symE D d (dsym t), (t.d.toNat - (sizeS true (dsym t : Nat)).1, (sizeS true (dsym t : Nat)).2)]
def TokHas (L D : Nat -> Nat) (t : Tok) : Prop := if t.l = 0 then 0 < L t.b.toNat else 0 < L (257 + lsym t) /\ 0 < D (dsym t)
structure CodesOK (L : Nat -> Nat) (c : Nat) (D : Nat -> Nat) (d : Nat) : Prop where
 l15 : ∀ i, i < c -> L i <= 15
 d15 : ∀ i, i < d -> D i <= 15
 lp : parts L c <= 32768
 dp : parts D d <= 32768
 c257 : 257 <= c
theorem terr_zero {most : Int} {n : Nat} {t : Tok} (h : terr most n t = 0) : (t.l = 0 /\ t.d = 0 /\ (n : Int) < most) \/ (t.l ≠ 0 /\ t.b = 0 /\ 3 <= t.l /\ t.l <= 258 /\ 1 <= t.d /\ t.d <= 32768 /\ t.d <= (n : Int) /\ (n : Int) + t.l <= most) := by
 unfold terr at h
 by_cases h0 : t.l = 0
 . rw [if_pos h0] at h
   by_cases h1 : t.d = 0
   . rw [if_neg (by simpa using h1)] at h
     by_cases h2 : most <= (n : Int)
     . rw [if_pos h2] at h; omega
     . exact .inl ⟨h0, h1, by omega⟩
   . rw [if_pos h1] at h; omega
 . rw [if_neg h0] at h
   by_cases h1 : t.b ≠ 0 \/ t.l < 3 \/ 258 < t.l \/ t.d < 1 \/ 32768 < t.d \/ (n : Int) < t.d
   . rw [if_pos h1] at h; omega
   . rw [if_neg h1] at h
     have hb : t.b = 0 := by
      by_cases e : t.b = 0
      . exact e
      . exact absurd (.inl e) h1
     have h1' := fun x => h1 (.inr x)
     by_cases h2 : most < (n : Int) + t.l
     . rw [if_pos h2] at h; omega
     . exact .inr ⟨h0, hb, by omega, by omega, by omega, by omega, by omega, by omega⟩
theorem tok_rd {L : Nat -> Nat} {c : Nat} {D : Nat -> Nat} {d most : Nat} (C : CodesOK L c D d) (t : Tok) (out : Nat) (ht : terr (most : Int) out t = 0) (hh : TokHas L D t) (hc : t.l ≠ 0 -> 257 + lsym t < c /\ dsym t < d) (l : List (Nat × Nat)) (Y m : Nat) :
 tokStep L c D d most (rd (tokE L c D d t ++ l) Y m out) = .ok (some t, rd l Y m (out + tlen t)) := by
 unfold tokStep tokE
 rcases terr_zero ht with ⟨h0, h1, h2⟩ | ⟨h0, hb, h3, h4, h5, h6, h7, h8⟩
 . have hb := t.b.toNat_lt
   have h257 := C.c257
   unfold TokHas at hh
   rw [if_pos h0] at hh
   rw [if_pos h0]
   show thenR (symM L c (rd (symE L c t.b.toNat :: l) Y m out)) _ = _
   rw [sym_rd C.l15 C.lp (by omega) hh, thenR_ok, if_neg (by omega), if_pos (by omega)]
   unfold growM
   rw [if_neg (by rw [rd_out]; omega), thenR_ok]
   have e : (⟨UInt8.ofNat t.b.toNat, 0, 0⟩ : Tok) = t := by
    cases t
    rename_i b ll dd
    simp only at h0 h1
    subst h0 h1
    congr 1
    simp
   rw [e]
   have e2 : tlen t = 1 := by unfold tlen; rw [if_pos h0]
   rw [e2]
   rfl
 . unfold TokHas at hh
   rw [if_neg h0] at hh
   rw [if_neg h0]
   obtain ⟨hc1, hc2⟩ := hc h0
   obtain ⟨a1, a2, a3⟩ := len_size t.l.toNat (by omega) (by omega)
   obtain ⟨b1, b2, b3⟩ := dist_size t.d.toNat (by omega) (by omega)
   have ea : lsym t = symF false t.l.toNat 29 := rfl
   have eb : dsym t = symF true t.d.toNat 30 := rfl
   rw [<- ea] at a1 a2 a3
   rw [<- eb] at b1 b2 b3
   show thenR (symM L c (rd (symE L c (257 + lsym t) :: (t.l.toNat - (sizeS false (lsym t : Nat)).1, (sizeS false (lsym t : Nat)).2) :: symE D d (dsym t) :: (t.d.toNat - (sizeS true (dsym t : Nat)).1, (sizeS true (dsym t : Nat)).2) :: l) Y m out)) _ = _
   rw [sym_rd C.l15 C.lp hc1 hh.1, thenR_ok, if_neg (by omega), if_neg (by omega), if_neg (by omega)]
   have e1 : ((257 + lsym t : Nat) : Int) - 257 = ((lsym t : Nat) : Int) := by omega
   rw [e1, bits_rd' a3, thenR_ok, sym_rd C.d15 C.dp hc2 hh.2, thenR_ok, if_neg (by omega), bits_rd' b3, thenR_ok, if_neg (by rw [rd_out]; omega)]
   unfold growM
   rw [show (sizeS false ((lsym t : Nat) : Int)).1 + (t.l.toNat - (sizeS false ((lsym t : Nat) : Int)).1) = t.l.toNat by omega, show (sizeS true ((dsym t : Nat) : Int)).1 + (t.d.toNat - (sizeS true ((dsym t : Nat) : Int)).1) = t.d.toNat by omega]
   rw [if_neg (by rw [rd_out]; omega), thenR_ok]
   have e : (⟨0, ((t.l.toNat : Nat) : Int), ((t.d.toNat : Nat) : Int)⟩ : Tok) = t := by
    cases t
    rename_i b ll dd
    simp only at hb h3 h5
    subst hb
    congr 1
    . show ((ll.toNat : Nat) : Int) = ll; omega
    . show ((dd.toNat : Nat) : Int) = dd; omega
   rw [e]
   have e2 : tlen t = t.l.toNat := by unfold tlen; rw [if_neg h0]
   rw [e2]
   rfl
theorem end_rd {L : Nat -> Nat} {c : Nat} {D : Nat -> Nat} {d most : Nat} (C : CodesOK L c D d) (h : 0 < L 256) (l : List (Nat × Nat)) (Y m out : Nat) : tokStep L c D d most (rd (symE L c 256 :: l) Y m out) = .ok (none, rd l Y m out) := by
 unfold tokStep
 have h257 := C.c257
 rw [sym_rd C.l15 C.lp (by omega) h, thenR_ok, if_pos rfl]
def toksE (L : Nat -> Nat) (c : Nat) (D : Nat -> Nat) (d : Nat) (S : List Tok) : List (Nat × Nat) := S.flatMap (tokE L c D d)
theorem toksE_cons (L : Nat -> Nat) (c : Nat) (D : Nat -> Nat) (d : Nat) (t : Tok) (S : List Tok) : toksE L c D d (t :: S) = tokE L c D d t ++ toksE L c D d S := rfl
theorem toksE_app (L : Nat -> Nat) (c : Nat) (D : Nat -> Nat) (d : Nat) (S T : List Tok) : toksE L c D d (S ++ T) = toksE L c D d S ++ toksE L c D d T := List.flatMap_append
theorem texp_cons {most : Int} {o : List UInt8} {t : Tok} {r : List Tok} {T : List UInt8} (h : texp most o (t :: r) = (T, 0)) : terr most o.length t = 0 /\ texp most (tout o t) r = (T, 0) := by
 by_cases h0 : terr most o.length t = 0
 . exact ⟨h0, (texp_step h0).symm.trans h⟩
 . rw [texp_stop rfl h0] at h
   injection h with _ h
   exact absurd h h0
theorem toks_rd {L : Nat -> Nat} {c : Nat} {D : Nat -> Nat} {d most : Nat} (C : CodesOK L c D d) (h256 : 0 < L 256) (l : List (Nat × Nat)) (Y m : Nat) (T : List UInt8) : ∀ (S : List Tok) (o : List UInt8) (f : Nat) (S0 : List Tok), texp (most : Int) o S = (T, 0) -> (∀ t ∈ S, TokHas L D t /\ (t.l ≠ 0 -> 257 + lsym t < c /\ dsym t < d)) -> S.length < f ->
 tokM L c D d most f (rd (toksE L c D d S ++ symE L c 256 :: l) Y m o.length) S0 = .ok (S0 ++ S, rd l Y m (o.length + tlenS S)) := by
 intro S
 induction S with
 | nil =>
  intro o f S0 h1 h2 h3
  obtain ⟨f, rfl⟩ : ∃ g, f = g + 1 := ⟨f - 1, by omega⟩
  show thenR (tokStep L c D d most (rd (symE L c 256 :: l) Y m o.length)) _ = _
  rw [end_rd C h256, thenR_ok, List.append_nil]
  rfl
 | cons t S ih =>
  intro o f S0 h1 h2 h3
  obtain ⟨f, rfl⟩ : ∃ g, f = g + 1 := ⟨f - 1, by omega⟩
  obtain ⟨h4, h5⟩ := texp_cons h1
  obtain ⟨h6, h7⟩ := h2 t (List.mem_cons_self ..)
  rw [toksE_cons, List.append_assoc]
  show thenR (tokStep L c D d most (rd (tokE L c D d t ++ (toksE L c D d S ++ symE L c 256 :: l)) Y m o.length)) _ = _
  rw [tok_rd C t o.length h4 h6 h7, thenR_ok]
  show tokM L c D d most f _ (S0 ++ [t]) = _
  rw [<- tout_len o t, ih (tout o t) f (S0 ++ [t]) h5 (fun x hx => h2 x (List.mem_cons_of_mem _ hx)) (by simpa using h3), List.append_assoc, tout_len]
  have e : tlenS (t :: S) = tlen t + tlenS S := rfl
  rw [e, Nat.add_assoc]
  rfl
theorem texp_join (most : Int) : ∀ (S : List Tok) (o T : List UInt8), texp most o S = (T, 0) -> joinS o S = T := by
 intro S
 induction S with
 | nil => intro o T h; injection h
 | cons t S ih =>
  intro o T h
  exact ih _ _ (texp_cons h).2
theorem texp_toks (most : Int) : ∀ (S : List Tok) (o T : List UInt8), texp most o S = (T, 0) -> ∀ t ∈ S, (t.l = 0 /\ t.d = 0) \/ (t.l ≠ 0 /\ t.b = 0 /\ 3 <= t.l /\ t.l <= 258 /\ 1 <= t.d /\ t.d <= 32768) := by
 intro S
 induction S with
 | nil => intro o T _ t ht; cases ht
 | cons x S ih =>
  intro o T h t ht
  obtain ⟨h1, h2⟩ := texp_cons h
  rcases List.mem_cons.1 ht with rfl | ht
  . rcases terr_zero h1 with ⟨a, b, _⟩ | ⟨a, b, c, d, e, f, _⟩
    . exact .inl ⟨a, b⟩
    . exact .inr ⟨a, b, c, d, e, f⟩
  . exact ih _ _ h2 t ht
theorem tok_syms (t : Tok) (h : 3 <= t.l /\ t.l <= 258 /\ 1 <= t.d /\ t.d <= 32768) : lsym t <= 28 /\ dsym t <= 29 :=
 ⟨(len_size t.l.toNat (by omega) (by omega)).1, (dist_size t.d.toNat (by omega) (by omega)).1⟩
theorem codes_fix : CodesOK (lens fixL) 288 (lens fun _ => 5) 32 where
 l15 := fix15
 d15 := five15
 lp := by decide +kernel
 dp := by decide +kernel
 c257 := by decide
theorem fix_pos (i : Nat) : 0 < lens fixL i := by
 unfold lens fixL
 split
 . decide
 . split
   . decide
   . split <;> decide
def fixE (S : List Tok) : List (Nat × Nat) := (1, 1) :: (1, 2) :: (toksE (lens fixL) 288 (lens fun _ => 5) 32 S ++ [symE (lens fixL) 288 256])
def encB (l : List (Nat × Nat)) : ByteArray := ⟨(bytesN (encV l) ((encN l + 7) / 8)).toArray⟩
theorem encB_size (l : List (Nat × Nat)) : (encB l).size = (encN l + 7) / 8 := by
 show (bytesN _ _).toArray.size = _
 rw [List.size_toArray, bytesN_length]
theorem encB_sg (l : List (Nat × Nat)) : sg (encB l) 0 0 = rd l 0 (8 * ((encN l + 7) / 8) - encN l) 0 := by
 have hn : num (encB l) = encV l := by
  unfold num
  show leN (bytesN (encV l) ((encN l + 7) / 8)) = encV l
  rw [leN_bytesN, pow256, Nat.mod_eq_of_lt (Qb (encV_lt l) (Nat.pow_le_pow_right (by decide) (by omega)))]
 unfold sg rd
 rw [encB_size, hn, Nat.pow_zero, Nat.div_one, Nat.mul_zero, Nat.sub_zero, show encN l + (8 * ((encN l + 7) / 8) - encN l) = 8 * ((encN l + 7) / 8) by omega]
 rfl
theorem tokE_len (L : Nat -> Nat) (c : Nat) (D : Nat -> Nat) (d : Nat) (t : Tok) (h : TokHas L D t) : 1 <= encN (tokE L c D d t) := by
 unfold TokHas at h
 unfold tokE
 by_cases h0 : t.l = 0
 . rw [if_pos h0] at h ⊢
   simp only [encN, symE]; omega
 . rw [if_neg h0] at h ⊢
   simp only [encN, symE]; omega
theorem toksE_len (L : Nat -> Nat) (c : Nat) (D : Nat -> Nat) (d : Nat) (S : List Tok) (h : ∀ t ∈ S, TokHas L D t) : S.length <= encN (toksE L c D d S) := by
 induction S with
 | nil => exact Nat.zero_le _
 | cons t S ih =>
  rw [toksE_cons, encN_app, List.length_cons]
  have := tokE_len L c D d t (h t (List.mem_cons_self ..))
  have := ih fun x hx => h x (List.mem_cons_of_mem _ hx)
  omega
theorem fix_infl (S : List Tok) (most : Nat) (T : List UInt8) (h : texp (most : Int) [] S = (T, 0)) : inflR (encB (fixE S)) most = .ok ([⟨1, [], S⟩], ⟨0, 8 * ((encN (fixE S) + 7) / 8) - encN (fixE S), T.length⟩) := by
 unfold inflR
 rw [encB_sg]
 obtain ⟨m, hm⟩ : ∃ m, 8 * ((encN (fixE S) + 7) / 8) - encN (fixE S) = m := ⟨_, rfl⟩
 rw [hm]
 have hts := texp_toks _ S [] T h
 have hhas : ∀ t ∈ S, TokHas (lens fixL) (lens fun _ => 5) t /\ (t.l ≠ 0 -> 257 + lsym t < 288 /\ dsym t < 32) := by
  intro t ht
  refine ⟨?_, fun h0 => ?_⟩
  . unfold TokHas
    split
    . exact fix_pos _
    . exact ⟨fix_pos _, show 0 < 5 by decide⟩
  . rcases hts t ht with ⟨a, _⟩ | ⟨_, _, a⟩
    . exact absurd a h0
    . have := tok_syms t a
      omega
 show thenR (blockM most (rd (fixE S) 0 m 0)) _ = _
 have hb : blockM most (rd (fixE S) 0 m 0) = .ok ((1, ⟨1, [], S⟩), rd [] 0 m (0 + tlenS S)) := by
  unfold blockM fixE
  rw [bits_rd' (by decide), thenR_ok, bits_rd' (by decide), thenR_ok, if_neg (by decide), if_pos rfl, tokensM_fix]
  have e0 : tokM (lens fixL) 288 (lens fun _ => 5) 32 most ((rd (toksE (lens fixL) 288 (lens fun _ => 5) 32 S ++ [symE (lens fixL) 288 256]) 0 m 0).n + 1) (rd (toksE (lens fixL) 288 (lens fun _ => 5) 32 S ++ [symE (lens fixL) 288 256]) 0 m 0) [] = .ok ([] ++ S, rd [] 0 m (0 + tlenS S)) :=
   toks_rd codes_fix (fix_pos 256) [] 0 m T S [] _ [] h hhas (by
    rw [rd_n, encN_app]
    have := toksE_len (lens fixL) 288 (lens fun _ => 5) 32 S fun t ht => (hhas t ht).1
    omega)
  rw [e0, thenR_ok]
  rfl
 rw [hb, thenR_ok]
 have e : (rd [] 0 m (0 + tlenS S)) = ⟨0, m, T.length⟩ := by
  have := joinS_len S []
  rw [texp_join _ S [] T h] at this
  unfold rd encV encN
  rw [this]
  simp
 rw [e]
 rfl
theorem fix_join (S : List Tok) (most : Int) (T : List UInt8) (h : texp most [] S = (T, 0)) : joinL [] [⟨1, [], S⟩] = T := texp_join most S [] T h
def PK (w0 W : World) (P : Nat) (v : Value) (l : List (Nat × Nat)) : Prop := SinkAt W P v (encV l) (encN l) /\ Below w0.heap.size w0 W /\ w0.heap.size <= P
theorem PK.below {w0 W W' : World} {P : Nat} {v : Value} {l : List (Nat × Nat)} (h : PK w0 W P v l) (hb : Below W.heap.size W W') : PK w0 W' P v l := by
 have hlt := World.ownsRow.lt h.1.2.1
 refine ⟨⟨h.1.1.below hb h.1.1.lt, ⟨h.1.2.1.1, ?_⟩, h.1.2.2⟩, h.2.1.trans (hb.mono h.2.1.size), h.2.2⟩
 rcases h.1.2.1.2 with h2 | ⟨g, cap, cur, rfl, h3, h4, h5⟩
 . exact .inl h2
 . exact .inr ⟨g, cap, cur, rfl, h3, (hb.block g (hlt g rfl).2).trans h4, h5⟩
theorem PK.drew {w0 W : World} {P : Nat} {v : Value} {l : List (Nat × Nat)} (h : PK w0 W P v l) : PK w0 W.drew P v l := h.below ⟨rfl, rfl, rfl, Qa _, fun _ _ => rfl⟩
theorem PK.drewN {w0 W : World} {P : Nat} {v : Value} {l : List (Nat × Nat)} (h : PK w0 W P v l) (n : Nat) : PK w0 (W.drewN n) P v l := h.below ⟨rfl, rfl, rfl, Qa _, fun _ _ => rfl⟩
theorem PK.new (w : World) : PK w (w.alloc (.cells #[.slice none 0 0, .int .u64 0, .int .i64 0] 84)) w.heap.size (.slice none 0 0) [] :=
 ⟨⟨Blk.new w 84 _, World.ownsRow_nil _ _ _ _, by decide⟩, (Below.refl w.heap.size w).alloc (Qa _) _, Qa _⟩
theorem PK.chg {w0 W W' : World} {P : Nat} {v v' : Value} {l l' : List (Nat × Nat)} (h : PK w0 W P v l) (hS : SinkAt W' P v' (encV l') (encN l')) (hc : Chg W W' P v) : PK w0 W' P v' l' :=
 ⟨hS, hc.below h.2.1 h.2.2 fun g e => by have := (World.ownsRow.lt h.1.2.1 g e).1; have := h.2.2; omega, h.2.2⟩
theorem put_pk (w0 : World) (P : Nat) (v : Value) (l : List (Nat × Nat)) (x k : Nat) (N : Int) (hx : x < 4294967296) (hN : Clamp N k) (hc : encN l <= 900000000) (W : World) (h : PK w0 W P v l) :
 Calls Try.prog 40 #[.pointer (some ⟨P, 0, none⟩), .int .u32 (x : Int), .int .i64 N] W fun e W' => e = .returned (.tuple #[]) /\ ∃ v', PK w0 W' P v' (l ++ [(x, k)]) /\ KeepT W W' :=
 (sinkPut_any P v _ _ x k N hx hN (by omega) W h.1).mono fun e W' ⟨h1, v', h2, h3, _⟩ => ⟨h1, v', h.chg (by rw [encV_snoc, encN_snoc]; exact h2) h3, pk_keep h.1 h3⟩
theorem turn_pk (w0 : World) (P : Nat) (v : Value) (l : List (Nat × Nat)) (x k : Nat) (N : Int) (hx : x < 4294967296) (hN : Clamp N k) (hc : encN l <= 900000000) (W : World) (h : PK w0 W P v l) :
 Calls Try.prog 41 #[.pointer (some ⟨P, 0, none⟩), .int .u32 (x : Int), .int .i64 N] W fun e W' => e = .returned (.tuple #[]) /\ ∃ v', PK w0 W' P v' (l ++ [(rev x k, k)]) /\ KeepT W W' :=
 (sinkTurn_any P v _ _ x k N hx hN (by omega) W h.1).mono fun e W' ⟨h1, v', h2, h3, _⟩ => ⟨h1, v', h.chg (by rw [encV_snoc, encN_snoc]; exact h2) h3, pk_keep h.1 h3⟩
theorem all_pk (w0 : World) (P : Nat) (v : Value) (l : List (Nat × Nat)) (hc : encN l <= 900000000) (W : World) (h : PK w0 W P v l) :
 Calls Try.prog 42 #[.pointer (some ⟨P, 0, none⟩)] W fun e W' => e = .returned (.string (encB l)) /\ Below W.heap.size W W' :=
 sinkAll_any P v _ _ (by omega) W h.1
theorem size_lim (far : Bool) (i : Nat) (h : i <= 29) : (sizeS far (i : Int)).1 <= 100000 /\ (sizeS far (i : Int)).2 <= 14 := by
 have key : ∀ i : Nat, i < 30 -> ((sizeS false (i : Int)).1 <= 100000 /\ (sizeS false (i : Int)).2 <= 14) /\ ((sizeS true (i : Int)).1 <= 100000 /\ (sizeS true (i : Int)).2 <= 14) := by decide
 cases far
 . exact (key i (by omega)).1
 . exact (key i (by omega)).2
theorem tokE_le (L : Nat -> Nat) (c : Nat) (D : Nat -> Nat) (d : Nat) (t : Tok) (hL : ∀ i, L i <= 15) (hD : ∀ i, D i <= 15) (h : (t.l = 0 /\ t.d = 0) \/ (t.l ≠ 0 /\ t.b = 0 /\ 3 <= t.l /\ t.l <= 258 /\ 1 <= t.d /\ t.d <= 32768)) : encN (tokE L c D d t) <= 60 := by
 unfold tokE
 rcases h with ⟨h0, _⟩ | ⟨h0, _, h1⟩
 . rw [if_pos h0]
   have := hL t.b.toNat
   simp only [encN, symE]; omega
 . rw [if_neg h0]
   obtain ⟨a, b⟩ := tok_syms t h1
   have := hL (257 + lsym t)
   have := hD (dsym t)
   have := (size_lim false (lsym t) (by omega)).2
   have := (size_lim true (dsym t) (by omega)).2
   simp only [encN, symE]; omega
theorem toksE_le (L : Nat -> Nat) (c : Nat) (D : Nat -> Nat) (d : Nat) (S : List Tok) (hL : ∀ i, L i <= 15) (hD : ∀ i, D i <= 15) (h : ∀ t ∈ S, (t.l = 0 /\ t.d = 0) \/ (t.l ≠ 0 /\ t.b = 0 /\ 3 <= t.l /\ t.l <= 258 /\ 1 <= t.d /\ t.d <= 32768)) : encN (toksE L c D d S) <= 60 * S.length := by
 induction S with
 | nil => exact Nat.zero_le _
 | cons t S ih =>
  rw [toksE_cons, encN_app, List.length_cons]
  have := tokE_le L c D d t hL hD (h t (List.mem_cons_self ..))
  have := ih fun x hx => h x (List.mem_cons_of_mem _ hx)
  omega
theorem size_any (far : Bool) (i : Int) (w : World) : Calls Try.prog 34 #[.int .i64 i, .bool far] w fun e w' => e = .returned (.tuple #[.int .i64 ((sizeS far i).1 : Int), .int .i64 ((sizeS far i).2 : Int)]) /\ ∃ n, w' = w.drewN n := by
 cases far
 . exact size_near i w
 . exact size_far i w
set_option maxHeartbeats 8000000 in
theorem symbol_any (far : Bool) (n : Nat) (h0 : 0 < (sizeS far 0).1 /\ (sizeS far 0).1 <= n) (hn : n <= 40000) (w : World) :
 Calls Try.prog 92 #[.int .i64 (n : Int), .bool far] w fun e w' => e = .returned (.tuple #[.int .i64 ((symF far n 30 : Nat) : Int), .int .u32 ((n - (sizeS far (symF far n 30 : Nat)).1 : Nat) : Int), .int .i64 ((sizeS far (symF far n 30 : Nat)).2 : Int)]) /\ ∃ m, w' = w.drewN m := by
 obtain ⟨Y, HY⟩ := Qi (symF far n 30)
 rw [HY.out]
 have H0 := Qf h0
 clear h0
 go_enter Try.func92, Try.ntmps92
 go_wp2_with fail
 go_loopw [7] (fun i_ wr => ∃ j m : Nat, j <= 29 /\ i_ = .int .i64 (j : Int) /\ Hid (symF far n (j + 1) = Y) /\ wr = w.drewN m) (fun i _ => (intOf i).toNat)
 case atStart => exact ⟨29, 0, Qa _, rfl, HY, by first | rfl | trivial⟩
 case round =>
  obtain ⟨j, m, hj, rfl, HS, hwr⟩ := hrel
  have CS := Qf (size_any far (j : Int) wr)
  obtain ⟨⟨b, mo⟩, Hsz⟩ : ∃ R, Hid (sizeS far (j : Int) = R) := ⟨_, Qf (Eq.refl _)⟩
  rw [Hsz.out] at CS
  dsimp only at CS
  have hlim := size_lim far j hj
  rw [Hsz.out] at hlim
  dsimp only at hlim
  have hb : b <= 100000 := hlim.1
  have Hwr := Qf hwr
  clear hlim hwr
  go_wp2_with fail
  refine CS.out.mono ?_
  rintro e w2 ⟨rfl, m2, rfl⟩
  by_cases hb0 : 0 < b
  . have d0 : decide ((0 : Int) < (b : Int)) = true := Qg (by omega)
    have d0b : decide (0 < b) = true := Qg (by omega)
    by_cases hbn : b <= n
    . have d1 : decide ((b : Int) <= (n : Int)) = true := Qg (by omega)
      have d1b : decide (b <= n) = true := Qg (by omega)
      have hY : Y = j := by
       rw [<- HS.out]
       exact if_pos ⟨by rw [Hsz.out]; exact hb0, by rw [Hsz.out]; exact hbn⟩
      obtain ⟨x, Hx⟩ := Qi (n - b)
      have hxv := Hx.out
      have v1 : IntKind.i64.wrap ((n : Int) - (b : Int)) = (x : Int) := by rw [IntKind.wrap_i64]; omega
      have v2 : (n : Int) - (b : Int) = (x : Int) := by omega
      have v3 : IntKind.u32.wrap (x : Int) = (x : Int) := by rw [IntKind.wrap_u32]; omega
      have hx4 : x <= 40000 := by omega
      have v4 : (x : Int) % 4294967296 = (x : Int) := by omega
      clear hxv
      go_wp2_with fail
      go_ret3
      refine ⟨?_, m + m2, by rw [Hwr.out, World.drewN_drewN]⟩
      rw [hY, Hsz.out]
      dsimp only
      rw [Hx.out]
      rfl
    . have d1 : decide ((b : Int) <= (n : Int)) = false := Qh (by omega)
      have d1b : decide (b <= n) = false := Qh (by omega)
      have hstep : symF far n j = Y := by
       rw [<- HS.out]
       exact (if_neg (fun h => hbn (by have := h.2; rw [Hsz.out] at this; exact this))).symm
      obtain ⟨q, rfl⟩ : ∃ q, j = q + 1 := by
       by_cases hj0 : j = 0
       . subst hj0
         have := H0.out.2
         have e : sizeS far 0 = (b, mo) := Hsz.out
         rw [e] at this
         exact absurd this hbn
       . exact ⟨j - 1, by omega⟩
      have Hstep := Qf hstep
      have v5 : ((q + 1 : Nat) : Int) - 1 = (q : Int) := by omega
      clear hstep
      go_wp2_with fail
      go_roundw
      case rel => exact ⟨q, m + m2, by omega, by go_num, Hstep, by rw [Hwr.out, World.drewN_drewN]⟩
      case measure => simp [intOf]
  . have d0 : decide ((0 : Int) < (b : Int)) = false := Qh (by omega)
    have d0b : decide (0 < b) = false := Qh (by omega)
    have hstep : symF far n j = Y := by
     rw [<- HS.out]
     exact (if_neg (fun h => hb0 (by have := h.1; rw [Hsz.out] at this; exact this))).symm
    obtain ⟨q, rfl⟩ : ∃ q, j = q + 1 := by
     by_cases hj0 : j = 0
     . subst hj0
       have := H0.out.1
       have e : sizeS far 0 = (b, mo) := Hsz.out
       rw [e] at this
       exact absurd this hb0
     . exact ⟨j - 1, by omega⟩
    have Hstep := Qf hstep
    clear hstep
    go_wp2_with fail
    go_roundw
    case rel => exact ⟨q, m + m2, by omega, by go_num, Hstep, by rw [Hwr.out, World.drewN_drewN]⟩
    case measure => simp [intOf]
theorem symF_30 (n : Nat) : symF false n 30 = symF false n 29 := by
 show (if 0 < (sizeS false ((29 : Nat) : Int)).1 /\ _ then 29 else symF false n 29) = _
 rw [if_neg (fun h => absurd h.1 (by decide))]
set_option maxHeartbeats 8000000 in
theorem put_any7 (w0 : World) (P : Nat) (v : Value) (l : List (Nat × Nat)) (gc n cap s : Nat) (F L : Nat -> Nat) (hs : s < n) (_hn : n <= 1000) (hL : L s <= 15) (hF : F s < 4294967296) (hc : encN l <= 900000000) (W : World) (h : PK w0 W P v l) (hB : Blk W gc 88 (ccells n F L)) :
 Calls Try.prog 91 #[.pointer (some ⟨P, 0, none⟩), .slice (some ⟨gc, 0, none⟩) n cap, .int .i64 (s : Int)] W fun e W' => e = .returned (.tuple #[]) /\ ∃ v', PK w0 W' P v' (l ++ [(rev (F s) (L s), L s)]) /\ KeepT W W' := by
 have HB := Qf hB
 have hBk := hB
 have k0 := hBk.cell (s * 2)
 rw [ccells_bits n F L s (s * 2) rfl hs] at k0
 have k1 := hBk.cell (s * 2 + 1)
 rw [ccells_len n F L s (s * 2 + 1) rfl hs] at k1
 obtain ⟨k, Hk⟩ := Qi (L s)
 obtain ⟨f, Hf⟩ := Qi (F s)
 rw [Hf.out] at k0 hF ⊢
 rw [Hk.out] at k1 hL ⊢
 have HTn := Qf (turn_pk w0 P v l f k (k : Int) hF (.inr (.inl ⟨rfl, by omega⟩)) hc W.drew h.drew)
 obtain ⟨l2, Hl2⟩ := Qi (l ++ [(rev f k, k)])
 rw [Hl2.out] at HTn ⊢
 have k0d : W.drew.cell? ⟨gc, s * 2, none⟩ = some (.int .u32 (f : Int)) := k0
 have k1d : W.drew.cell? ⟨gc, s * 2 + 1, none⟩ = some (.int .i64 (k : Int)) := k1
 have hsI : (s : Int) < (n : Int) := by omega
 clear hBk k0 k1 h hB
 go_enter Try.func91, Try.ntmps91
 go_wp2_with fail
 go_region_held3 (fun W => W.cell? ⟨gc, s * 2, none⟩ = some (.int .u32 (f : Int)) /\ W.cell? ⟨gc, s * 2 + 1, none⟩ = some (.int .i64 (k : Int)))
  (first | exact ⟨by assumption, by assumption⟩ | go_keep)
  (first
   | (go_at_call 41; refine HTn.out.mono ?_; rintro e w8 ⟨rfl, v8, hp8, hkt8⟩; have q3 := hp8; have hBk8 := hkt8 gc 88 _ (by decide) (by decide) HB.out.drew; have q0 := hBk8.cell (s * 2); have q1 := hBk8.cell (s * 2 + 1); rw [ccells_bits n F L s (s * 2) rfl hs, Hf.out] at q0; rw [ccells_len n F L s (s * 2 + 1) rfl hs, Hk.out] at q1))
 have HP8 := Qf q3
 have HK8 : Hid (KeepT W w8) := fun B t cs h1 h2 h3 => hkt8 B t cs h1 h2 h3
 clear q0 q1 q3 hBk8 hp8 hkt8
 go_wp2_with fail
 (try simp only [Exit.inBlock, Exit.then]); refine bodyPost_end (results_none rfl _ _ _) rfl ?_
 exact ⟨rfl, v8, HP8.out, HK8.out⟩
theorem tok_upd7 (S : List Tok) (j : Nat) (hj : j < S.length) (L : Nat -> Nat) (c : Nat) (D : Nat -> Nat) (d : Nat) : toksE L c D d (S.take (j + 1)) = toksE L c D d (S.take j) ++ tokE L c D d (tk S j) := by
 rw [List.take_succ_eq_append_getElem hj, <- tk_get hj, toksE_app]
 congr 1
 show tokE L c D d (tk S j) ++ [] = _
 rw [List.append_nil]
def TokW (n1 n2 : Nat) (t : Tok) : Prop := (t.l = 0 /\ t.d = 0 /\ t.b.toNat < n1) \/ (t.l ≠ 0 /\ t.b = 0 /\ 3 <= t.l /\ t.l <= 258 /\ 1 <= t.d /\ t.d <= 32768 /\ 257 + lsym t < n1 /\ dsym t < n2)
theorem TokW.ok {n1 n2 : Nat} {t : Tok} (h : TokW n1 n2 t) : (t.l = 0 /\ t.d = 0) \/ (t.l ≠ 0 /\ t.b = 0 /\ 3 <= t.l /\ t.l <= 258 /\ 1 <= t.d /\ t.d <= 32768) := by
 rcases h with ⟨a, b, _⟩ | ⟨a, b, c, d, e, f, _⟩
 . exact .inl ⟨a, b⟩
 . exact .inr ⟨a, b, c, d, e, f⟩
set_option maxHeartbeats 32000000 in
theorem body_any (w0 : World) (P : Nat) (v : Value) (l : List (Nat × Nat)) (S : List Tok) (a : Option Addr) (cap G1 n1 c1 G2 n2 c2 : Nat) (L D : Nat -> Nat) (hS : S.length <= 100000) (hn1 : 257 <= n1 /\ n1 <= 320) (hn2 : n2 <= 320) (hL : ∀ i, L i <= 15) (hD : ∀ i, D i <= 15)
 (hF : ∀ i, i < n1 -> bitsF L n1 i < 4294967296) (hE : ∀ i, i < n2 -> bitsF D n2 i < 4294967296) (hc : encN l <= 1000000) (ht : ∀ t ∈ S, TokW n1 n2 t)
 (W : World) (h : PK w0 W P v l) (hr : TkRow w0 a S) (hB1 : Blk W G1 88 (ccells n1 (bitsF L n1) L)) (hB2 : Blk W G2 88 (ccells n2 (bitsF D n2) D)) :
 Calls Try.prog 81 #[.pointer (some ⟨P, 0, none⟩), .slice a S.length cap, .slice (some ⟨G1, 0, none⟩) n1 c1, .slice (some ⟨G2, 0, none⟩) n2 c2] W fun e W' => e = .returned (.tuple #[]) /\ ∃ v', PK w0 W' P v' (l ++ toksE L n1 D n2 S ++ [symE L n1 256]) /\ KeepT W W' := by
 have HR := Qf hr
 have Ht := Qf ht
 have HL15 := Qf hL
 have HD15 := Qf hD
 obtain ⟨F, HFd⟩ := Qi (bitsF L n1)
 obtain ⟨E, HEd⟩ := Qi (bitsF D n2)
 rw [HFd.out] at hF hB1
 rw [HEd.out] at hE hB2
 have HF := Qf hF
 have HE := Qf hE
 have HsE : Hid (∀ i, symE L n1 i = (rev (F i) (L i), L i)) := by show ∀ i, _; rw [<- HFd.out]; exact fun i => rfl
 have HsD : Hid (∀ i, symE D n2 i = (rev (E i) (D i), D i)) := by show ∀ i, _; rw [<- HEd.out]; exact fun i => rfl
 have CP1 : Hid (∀ (s : Nat) (v : Value) (l : List (Nat × Nat)) (W : World), s < n1 -> encN l <= 900000000 -> PK w0 W P v l -> Blk W G1 88 (ccells n1 F L) -> Calls Try.prog 91 #[.pointer (some ⟨P, 0, none⟩), .slice (some ⟨G1, 0, none⟩) n1 c1, .int .i64 (s : Int)] W fun e W' => e = .returned (.tuple #[]) /\ ∃ v', PK w0 W' P v' (l ++ [(rev (F s) (L s), L s)]) /\ KeepT W W') :=
  fun s v l W h1 h2 h3 h4 => put_any7 w0 P v l G1 n1 c1 s F L h1 (by omega) (HL15.out s) (HF.out s h1) h2 W h3 h4
 have CP2 : Hid (∀ (s : Nat) (v : Value) (l : List (Nat × Nat)) (W : World), s < n2 -> encN l <= 900000000 -> PK w0 W P v l -> Blk W G2 88 (ccells n2 E D) -> Calls Try.prog 91 #[.pointer (some ⟨P, 0, none⟩), .slice (some ⟨G2, 0, none⟩) n2 c2, .int .i64 (s : Int)] W fun e W' => e = .returned (.tuple #[]) /\ ∃ v', PK w0 W' P v' (l ++ [(rev (E s) (D s), D s)]) /\ KeepT W W') :=
  fun s v l W h1 h2 h3 h4 => put_any7 w0 P v l G2 n2 c2 s E D h1 (by omega) (HD15.out s) (HE.out s h1) h2 W h3 h4
 have CPu := Qf (put_pk w0 P)
 obtain ⟨M, HM⟩ := Qi (S.length)
 rw [HM.out] at hS ⊢
 obtain ⟨l0, Hl0⟩ : ∃ l0, Hid (l0 = l ++ toksE L n1 D n2 (S.take 0)) := ⟨l, by show l = l ++ []; rw [List.append_nil]⟩
 have hl0 : l0 = l := by rw [Hl0.out]; exact List.append_nil l
 have HP0 : Hid (PK w0 W P v l0) := by rw [hl0]; exact h
 have Hle0 : Hid (encN l0 <= encN l + 60 * 0) := by rw [hl0]; exact Qa _
 have HK0 : Hid (KeepT W W) := fun _ _ _ _ _ x => x
 have HB1 := Qf hB1
 have HB2 := Qf hB2
 clear hr ht hL hD hF hE hB1 hB2 h hl0
 go_enter Try.func81, Try.ntmps81
 go_wp2_with fail
 go_loopw [15] (fun j_ wr => ∃ (j : Nat) (v : Value) (lx : List (Nat × Nat)), j <= M /\ j_ = .int .i64 (j : Int) /\ Hid (PK w0 wr P v lx) /\ Hid (lx = l ++ toksE L n1 D n2 (S.take j)) /\ Hid (encN lx <= encN l + 60 * j) /\ Hid (KeepT W wr)) (fun j _ => M - (intOf j).toNat)
 case atStart => exact ⟨0, v, l0, by omega, rfl, HP0, Hl0, Hle0, HK0⟩
 case round =>
  clear HP0 Hl0 Hle0 HK0
  obtain ⟨j, v, lx, hj, rfl, HPl, Hl, Hle, HK⟩ := hrel
  by_cases hlt : j < M
  . have dj : decide ((j : Int) < (M : Int)) = true := Qg (by omega)
    have hlI : (j : Int) < (M : Int) := by omega
    have hjS : j < S.length := by rw [HM.out]; exact hlt
    obtain ⟨b, off, rfl, _, c0, c1', c2'⟩ := (HR.out.below HPl.out.2.1 (Qa _)).get j hjS
    have hmem : tk S j ∈ S := by rw [tk_get hjS]; exact List.getElem_mem _
    have htk := tok_upd7 S j hjS L n1 D n2
    have hok := Ht.out _ hmem
    have hle60 := tokE_le L n1 D n2 (tk S j) HL15.out HD15.out hok.ok
    obtain ⟨⟨tb, tl, td⟩, Htt⟩ : ∃ R, Hid (tk S j = R) := ⟨_, Qf (Eq.refl _)⟩
    rw [Htt.out] at c0 c1' c2' htk hok hle60
    dsimp only at c0 c1' c2'
    have Htk := Qf htk
    have Hle60 := Qf hle60
    have hBA := Blk.new wr 35 #[.int .u8 (tb.toNat : Int), .int .i64 tl, .int .i64 td]
    have HBA := Qf hBA
    have hal := (Below.refl wr.heap.size wr).alloc (Qa _) (.cells #[.int .u8 (tb.toNat : Int), .int .i64 tl, .int .i64 td] 35)
    have HPa := Qf (HPl.out.below hal)
    have HKa := Qf (HK.out.trans (KeepT.below hal))
    have ht0 : (wr.alloc (.cells #[.int .u8 (tb.toNat : Int), .int .i64 tl, .int .i64 td] 35)).cell? ⟨wr.heap.size, 0, none⟩ = some (.int .u8 (tb.toNat : Int)) := hBA.cell 0
    have ht1 : (wr.alloc (.cells #[.int .u8 (tb.toNat : Int), .int .i64 tl, .int .i64 td] 35)).cell? ⟨wr.heap.size, 1, none⟩ = some (.int .i64 tl) := hBA.cell 1
    have hbyte := tb.toNat_lt
    clear htk hle60 hmem hBA hal HPl HK
    by_cases hl0 : tl = 0
    . subst hl0
      have d1 : ((0 : Int) == 0) = true := rfl
      obtain ⟨σ, Hσ⟩ := Qi (tb.toNat)
      have hσn : σ < n1 := by
       rw [<- Hσ.out]
       rcases hok with ⟨_, _, h⟩ | ⟨h, _⟩
       . exact h
       . exact absurd rfl h
      rw [Hσ.out] at c0 HBA HPa HKa ht0 ht1 hbyte
      have w20 : wrap64 (σ : Int) = (σ : Int) := by unfold wrap64; omega
      have CPs := Qf (CP1.out σ v lx _ hσn (by have := Hle.out; omega) HPa.out (HKa.out G1 88 _ (by decide) (by decide) HB1.out))
      obtain ⟨l2, Hl2⟩ := Qi (lx ++ [(rev (F σ) (L σ), L σ)])
      rw [Hl2.out] at CPs
      have hll : Hid (l2 = l ++ toksE L n1 D n2 (S.take (j + 1))) := by
       show _ = _
       rw [Htk.out, <- Hl2.out, Hl.out, List.append_assoc]
       congr 2
       show _ = [symE L n1 tb.toNat]
       rw [HsE.out, Hσ.out]
      have hlen2 : Hid (encN l2 <= encN l + 60 * (j + 1)) := by
       show _ <= _
       rw [<- Hl2.out, encN_snoc]
       have := Hle.out
       have := HL15.out σ
       omega
      clear hok
      go_wp2_with fail
      refine CPs.out.mono ?_
      rintro e w8 ⟨rfl, v8, hp8, hk8⟩
      have HP8 := Qf hp8
      have HK8 := Qf (HKa.out.trans hk8)
      clear hp8 hk8 CPs
      go_wp2_with fail
      go_roundw
      case rel => exact ⟨j + 1, v8, l2, by omega, by go_num, HP8, hll, hlen2, HK8⟩
      case measure => simp [intOf]; omega
    . have d1 : (tl == 0) = false := by simp; exact hl0
      obtain ⟨_, htb, h3, h258, hd1, hd32, hs1, hs2⟩ := hok.resolve_left fun h => hl0 h.1
      obtain ⟨n, rfl⟩ : ∃ n : Nat, tl = (n : Int) := ⟨tl.toNat, by dsimp only at h3; omega⟩
      obtain ⟨dd, rfl⟩ : ∃ n : Nat, td = (n : Int) := ⟨td.toNat, by dsimp only at hd1; omega⟩
      dsimp only at h3 h258 hd1 hd32
      have CS1 := Qf (fun W => symbol_any false n ⟨by decide, by show 3 <= n; omega⟩ (by omega) W)
      have CS2 := Qf (fun W => symbol_any true dd ⟨by decide, by show 1 <= dd; omega⟩ (by omega) W)
      have e1 : symF false n 30 = lsym ⟨tb, (n : Int), (dd : Int)⟩ := symF_30 n
      have e2 : symF true dd 30 = dsym ⟨tb, (n : Int), (dd : Int)⟩ := rfl
      rw [e1] at CS1
      rw [e2] at CS2
      obtain ⟨i1, Hi1⟩ := Qi (lsym ⟨tb, (n : Int), (dd : Int)⟩)
      obtain ⟨i2, Hi2⟩ := Qi (dsym ⟨tb, (n : Int), (dd : Int)⟩)
      rw [Hi1.out] at CS1 hs1
      rw [Hi2.out] at CS2 hs2
      have hlims := tok_syms ⟨tb, (n : Int), (dd : Int)⟩ ⟨by dsimp only; omega, by dsimp only; omega, by dsimp only; omega, by dsimp only; omega⟩
      rw [Hi1.out, Hi2.out] at hlims
      have hm1 := (size_lim false i1 (by omega)).2
      have hm2 := (size_lim true i2 (by omega)).2
      obtain ⟨⟨b1, m1⟩, Hb1⟩ : ∃ R, Hid (sizeS false (i1 : Int) = R) := ⟨_, Qf (Eq.refl _)⟩
      obtain ⟨⟨b2, m2⟩, Hb2⟩ : ∃ R, Hid (sizeS true (i2 : Int) = R) := ⟨_, Qf (Eq.refl _)⟩
      rw [Hb1.out] at CS1 hm1
      rw [Hb2.out] at CS2 hm2
      dsimp only at CS1 CS2 hm1 hm2
      obtain ⟨x1, Hx1⟩ := Qi (n - b1)
      obtain ⟨x2, Hx2⟩ := Qi (dd - b2)
      have hx1 : x1 < 4294967296 := by have := Hx1.out; omega
      have hx2 : x2 < 4294967296 := by have := Hx2.out; omega
      rw [Hx1.out] at CS1
      rw [Hx2.out] at CS2
      obtain ⟨q, Hq⟩ := Qi (257 + i1)
      have hqv := Hq.out
      have v1 : IntKind.i64.wrap ((257 : Int) + (i1 : Int)) = (q : Int) := by rw [IntKind.wrap_i64]; omega
      have hqn : q < n1 := by omega
      obtain ⟨la, Hla⟩ := Qi (lx ++ [(rev (F q) (L q), L q)])
      obtain ⟨lb, Hlb⟩ := Qi (la ++ [(x1, m1)])
      obtain ⟨lc, Hlc⟩ := Qi (lb ++ [(rev (E i2) (D i2), D i2)])
      obtain ⟨ld, Hld⟩ := Qi (lc ++ [(x2, m2)])
      have g0 := Hle.out
      have ga : encN la <= encN lx + 15 := by rw [<- Hla.out, encN_snoc]; have := HL15.out q; omega
      have gb : encN lb <= encN la + 14 := by rw [<- Hlb.out, encN_snoc]; omega
      have gc : encN lc <= encN lb + 15 := by rw [<- Hlc.out, encN_snoc]; have := HD15.out i2; omega
      have gd : encN ld <= encN lc + 14 := by rw [<- Hld.out, encN_snoc]; omega
      have Hga : Hid (encN la <= 900000000) := by show _ <= _; omega
      have Hgb : Hid (encN lb <= 900000000) := by show _ <= _; omega
      have Hgc : Hid (encN lc <= 900000000) := by show _ <= _; omega
      have Hgx : Hid (encN lx <= 900000000) := by show _ <= _; omega
      have hlen2 : Hid (encN ld <= encN l + 60 * (j + 1)) := by show _ <= _; omega
      have hll : Hid (ld = l ++ toksE L n1 D n2 (S.take (j + 1))) := by
       show _ = _
       have ht : tokE L n1 D n2 ⟨tb, (n : Int), (dd : Int)⟩ = [symE L n1 (257 + lsym ⟨tb, (n : Int), (dd : Int)⟩), (n - (sizeS false (lsym ⟨tb, (n : Int), (dd : Int)⟩ : Nat)).1, (sizeS false (lsym ⟨tb, (n : Int), (dd : Int)⟩ : Nat)).2), symE D n2 (dsym ⟨tb, (n : Int), (dd : Int)⟩), (dd - (sizeS true (dsym ⟨tb, (n : Int), (dd : Int)⟩ : Nat)).1, (sizeS true (dsym ⟨tb, (n : Int), (dd : Int)⟩ : Nat)).2)] := if_neg (by show ¬ (n : Int) = 0; omega)
       rw [Htk.out, <- Hld.out, <- Hlc.out, <- Hlb.out, <- Hla.out, Hl.out, ht, HsE.out, HsD.out, Hi1.out, Hi2.out, Hb1.out, Hb2.out, Hq.out]
       dsimp only
       rw [Hx1.out, Hx2.out]
       simp only [List.append_assoc, List.cons_append, List.nil_append]
      obtain ⟨Bx, HBx⟩ := Qi (wr.heap.size)
      clear hok htb hlims hqv g0 ga gb gc gd e1 e2 ht0 h3 h258 hd1 hd32
      go_wp2_with fail
      obtain ⟨W9, HW9⟩ := Qi ((wr.alloc (.cells #[.int .u8 (tb.toNat : Int), .int .i64 (n : Int), .int .i64 (dd : Int)] 35)))
      rw [HW9.out] at HPa HBA HKa ht1 ⊢
      rw [HBx.out] at HBA ht1 ⊢
      clear HW9 HBx
      refine (CS1.out _).mono ?_
      rintro e wa ⟨rfl, na, rfl⟩
      have HPb := Qf (HPa.out.drewN na)
      have HTb := Qf (HBA.out.drewN na)
      have HKb := Qf (HKa.out.trans (KeepT.below (below_drewN (Below.refl _ _) na)))
      have tc2 : (W9.drewN na).cell? ⟨Bx, 2, none⟩ = some (.int .i64 (dd : Int)) := HTb.out.cell 2
      clear HPa HBA HKa ht1
      go_wp2_with fail
      refine (CP1.out q v lx _ hqn Hgx.out HPb.out (HKb.out G1 88 _ (by decide) (by decide) HB1.out)).mono ?_
      rw [Hla.out]
      rintro e wb ⟨rfl, vb, hpb, hkb⟩
      have HPc := Qf hpb
      have HTc := Qf (hkb Bx 35 _ (by decide) (by decide) HTb.out)
      have HKc := Qf (HKb.out.trans hkb)
      clear hpb hkb HPb HTb HKb tc2
      go_wp2_with fail
      refine (CPu.out vb la x1 m1 (m1 : Int) hx1 (.inr (.inl ⟨rfl, by omega⟩)) Hga.out _ HPc.out).mono ?_
      rw [Hlb.out]
      rintro e wc ⟨rfl, vc, hpb, hkb⟩
      have HPd := Qf hpb
      have HTd := Qf (hkb Bx 35 _ (by decide) (by decide) HTc.out)
      have HKd := Qf (HKc.out.trans hkb)
      have tc2 : wc.cell? ⟨Bx, 2, none⟩ = some (.int .i64 (dd : Int)) := HTd.out.cell 2
      clear hpb hkb HPc HTc HKc
      go_wp2_with fail
      refine (CS2.out _).mono ?_
      rintro e wd ⟨rfl, nb, rfl⟩
      have HPe := Qf (HPd.out.drewN nb)
      have HKe := Qf (HKd.out.trans (KeepT.below (below_drewN (Below.refl _ _) nb)))
      clear HPd HTd HKd tc2
      go_wp2_with fail
      refine (CP2.out i2 vc lb _ hs2 Hgb.out HPe.out (HKe.out G2 88 _ (by decide) (by decide) HB2.out)).mono ?_
      rw [Hlc.out]
      rintro e we ⟨rfl, ve, hpb, hkb⟩
      have HPf := Qf hpb
      have HKf := Qf (HKe.out.trans hkb)
      clear hpb hkb HPe HKe
      go_wp2_with fail
      refine (CPu.out ve lc x2 m2 (m2 : Int) hx2 (.inr (.inl ⟨rfl, by omega⟩)) Hgc.out _ HPf.out).mono ?_
      rw [Hld.out]
      rintro e wf ⟨rfl, vf, hpb, hkb⟩
      have HPg := Qf hpb
      have HKg := Qf (HKf.out.trans hkb)
      clear hpb hkb HPf HKf
      go_wp2_with fail
      go_roundw
      case rel => exact ⟨j + 1, vf, ld, by omega, by go_num, HPg, hll, hlen2, HKg⟩
      case measure => simp [intOf]; omega
  . obtain rfl : j = M := by omega
    have dj : decide ((j : Int) < (j : Int)) = false := Qh (by omega)
    have hfull : S.take j = S := by rw [List.take_of_length_le (by rw [HM.out]; exact Qa _)]
    have CPs := Qf (CP1.out 256 v lx wr (by omega) (by have := Hle.out; omega) HPl.out (HK.out G1 88 _ (by decide) (by decide) HB1.out))
    have hlE : lx ++ [(rev (F 256) (L 256), L 256)] = l ++ toksE L n1 D n2 S ++ [symE L n1 256] := by
     rw [Hl.out, hfull, HsE.out]
    rw [hlE] at CPs
    clear hlE hfull
    go_wp2_with fail
    refine CPs.out.mono ?_
    rintro e w8 ⟨rfl, v8, hp8, hk8⟩
    have HP8 := Qf hp8
    have HK8 := Qf (HK.out.trans hk8)
    clear hp8 hk8 CPs
    go_wp2_with fail
    (try simp only [Exit.inBlock, Exit.then]); refine bodyPost_end (results_none rfl _ _ _) rfl ?_
    exact ⟨rfl, v8, HP8.out, HK8.out⟩
theorem tokW_of {most : Int} {S : List Tok} {T : List UInt8} (h : texp most [] S = (T, 0)) : ∀ t ∈ S, TokW 286 30 t /\ TokW 288 32 t := by
 intro t ht
 rcases texp_toks most S [] T h t ht with ⟨a, b⟩ | ⟨a, b, c⟩
 . have := t.b.toNat_lt
   exact ⟨.inl ⟨a, b, by omega⟩, .inl ⟨a, b, by omega⟩⟩
 . have := tok_syms t c
   exact ⟨.inr ⟨a, b, c.1, c.2.1, c.2.2.1, c.2.2.2, by omega, by omega⟩, .inr ⟨a, b, c.1, c.2.1, c.2.2.1, c.2.2.2, by omega, by omega⟩⟩
theorem codes_fixed7 (m : Nat -> Int) (n : Nat) (hn : n <= 320) (h15 : ∀ i, i < n -> 0 <= m i /\ m i <= 15) (hf : Fits (parts (lens m) n) (someOf (lens m) n)) (a : Option Addr) (cap : Nat) (w : World) (hr : IRow w a n m) :
 Calls Try.prog 39 #[.slice a n cap] w fun e w' => ∃ g, e = .returned (.tuple #[.slice (some ⟨g, 0, none⟩) n n, .int .i64 0]) /\ Blk w' g 88 (ccells n (bitsF (lens m) n) (lens m)) /\ Below w.heap.size w w' := by
 refine (codes_any a n cap m (by omega) w hr).mono ?_
 rintro e w' ⟨hb, ⟨h1, _⟩ | ⟨_, ⟨i, h1, h2⟩, _⟩ | ⟨_, _, h1, _⟩ | ⟨_, _, _, v, rfl, g, rfl, hg, hB⟩⟩
 . omega
 . exact absurd (h15 i h1) h2
 . exact absurd hf h1
 . exact ⟨g, rfl, hB, hb⟩
theorem fixL_rng7 (i : Nat) : 0 <= fixL i /\ fixL i <= 15 := by
 unfold fixL
 (repeat' split) <;> omega
set_option maxHeartbeats 16000000 in
theorem packed_fix (S : List Tok) (hS : S.length <= 4000) (b off cap : Nat) (hcap : S.length <= cap) (ht : ∀ t ∈ S, TokW 288 32 t) (w : World) (hr : TkRow w (some ⟨b, off, none⟩) S) :
 Calls Try.prog 61 #[.slice (some ⟨b, off, none⟩) S.length cap, .bool true] w fun e w' => e = .returned (.string (encB (fixE S))) /\ Below w.heap.size w w' := by
 have CL := Qf lengths_any
 have CC1 := Qf (codes_fixed7 fixL 288 (by decide) (fun i _ => fixL_rng7 i) (by decide +kernel))
 have CC2 := Qf (codes_fixed7 (fun _ => 5) 32 (by decide) (fun i _ => by omega) (by decide +kernel))
 obtain ⟨L, HL⟩ := Qi (lens fixL)
 obtain ⟨D, HD⟩ := Qi ((lens fun _ => 5))
 have hL15 : ∀ i, L i <= 15 := by rw [<- HL.out]; exact fun i => lens_15 fixL (i + 1) fixL_15 i (Nat.lt_succ_self i)
 have hD15 : ∀ i, D i <= 15 := by rw [<- HD.out]; exact fun i => by show 5 <= 15; decide
 have hF32 : ∀ i, i < 288 -> bitsF L 288 i < 4294967296 := by
  rw [<- HL.out]
  exact fun i hi => Qb (bitsF_lt _ _ i hi codes_fix.l15 codes_fix.lp) (Qe (Nat.pow_le_pow_right (by decide) (codes_fix.l15 i hi)) (by decide))
 have hE32 : ∀ i, i < 32 -> bitsF D 32 i < 4294967296 := by
  rw [<- HD.out]
  exact fun i hi => Qb (bitsF_lt _ _ i hi codes_fix.d15 codes_fix.dp) (Qe (Nat.pow_le_pow_right (by decide) (codes_fix.d15 i hi)) (by decide))
 have HfE : Hid ([(1, 1), (1, 2)] ++ toksE L 288 D 32 S ++ [symE L 288 256] = fixE S) := by
  show _ = _
  rw [<- HL.out, <- HD.out]
  rfl
 have hlenE : encN (fixE S) <= 300000 := by
  have h1 := toksE_le L 288 D 32 S hL15 hD15 (fun t h => (ht t h).ok)
  rw [<- HfE.out, encN_app, encN_app]
  have h2 := hL15 256
  have e1 : encN [(1, 1), (1, 2)] = 3 := rfl
  have e2 : encN [symE L 288 256] = L 256 + 0 := rfl
  omega
 rw [HL.out] at CC1
 rw [HD.out] at CC2
 have CBody : Hid (∀ (W : World) (v : Value) (G1 G2 : Nat), PK w W w.heap.size v [(1, 1), (1, 2)] -> Blk W G1 88 (ccells 288 (bitsF L 288) L) -> Blk W G2 88 (ccells 32 (bitsF D 32) D) ->
  Calls Try.prog 81 #[.pointer (some ⟨w.heap.size, 0, none⟩), .slice (some ⟨b, off, none⟩) S.length cap, .slice (some ⟨G1, 0, none⟩) 288 288, .slice (some ⟨G2, 0, none⟩) 32 32] W fun e W' => e = .returned (.tuple #[]) /\ ∃ v', PK w W' w.heap.size v' (fixE S) /\ KeepT W W') := by
  intro W v G1 G2 h1 h2 h3
  rw [<- HfE.out]
  exact body_any w w.heap.size v [(1, 1), (1, 2)] S (some ⟨b, off, none⟩) cap G1 288 288 G2 32 32 L D (by omega) ⟨by decide, by decide⟩ (by decide) hL15 hD15 hF32 hE32 (by decide) ht W h1 hr h2 h3
 obtain ⟨M, HM⟩ := Qi (S.length)
 rw [HM.out] at CBody hS hcap ⊢
 obtain ⟨F1, HF1⟩ := Qi (ccells 288 (bitsF L 288) L)
 obtain ⟨F2, HF2⟩ := Qi (ccells 32 (bitsF D 32) D)
 rw [HF1.out] at CC1 CBody
 rw [HF2.out] at CC2 CBody
 obtain ⟨FE, HFE⟩ := Qi (fixE S)
 rw [HFE.out] at CBody hlenE ⊢
 have HP0 := Qf (PK.new w)
 obtain ⟨P, HP⟩ := Qi (w.heap.size)
 rw [HP.out] at CBody HP0
 have CP1 : Hid (∀ W v, PK w W P v [] -> Calls Try.prog 40 #[.pointer (some ⟨P, 0, none⟩), .int .u32 1, .int .i64 1] W fun e W' => e = .returned (.tuple #[]) /\ ∃ v', PK w W' P v' [(1, 1)] /\ KeepT W W') :=
  fun W v h => put_pk w P v [] 1 1 1 (by decide) (.inr (.inl ⟨rfl, by decide⟩)) (by decide) W h
 have CP2 : Hid (∀ W v, PK w W P v [(1, 1)] -> Calls Try.prog 40 #[.pointer (some ⟨P, 0, none⟩), .int .u32 1, .int .i64 2] W fun e W' => e = .returned (.tuple #[]) /\ ∃ v', PK w W' P v' [(1, 1), (1, 2)] /\ KeepT W W') :=
  fun W v h => put_pk w P v [(1, 1)] 1 2 2 (by decide) (.inr (.inl ⟨rfl, by decide⟩)) (by decide) W h
 have CAl := Qf (fun W v h => all_pk w P v FE (by omega) W h)
 have hmin : ∀ W, Sem.run Try.prog (Builtin.min_ #[3, 3] 3 #[.int .i64 (M : Int), .int .i64 4000]) W = .ok (.int .i64 (M : Int)) W := fun W => by
  have e : (if (4000 : Int) < (M : Int) then 4000 else (M : Int)) = (M : Int) := by rw [if_neg (by omega)]
  show Result.ok (Value.int .i64 (if (4000 : Int) < (M : Int) then 4000 else (M : Int))) W = _
  rw [e]
 have dM : ((M : Int) == (M : Int)) = true := by simp
 have hMc : (M : Int) <= (cap : Int) := by omega
 clear hL15 hD15 hF32 hE32 hr ht hcap
 go_enter Try.func61, Try.ntmps61
 go_wp2_with fail
 rw [HP.out]
 refine (CL.out _).mono ?_
 rintro e w3 ⟨g1, c1, g2, rfl, hI1, hI2, -, -, hb3⟩
 have HI1 := Qf hI1
 have HI2 := Qf hI2
 have HP3 := Qf (HP0.out.below hb3)
 clear hI1 hI2 hb3 HP0
 go_wp2_with fail
 refine (CC1.out _ _ _ HI1.out).mono ?_
 rintro e w4 ⟨G1, rfl, hk1, hb4⟩
 have HI2b := Qf (HI2.out.below hb4)
 have HP4 := Qf (HP3.out.below hb4)
 have HK1 := Qf hk1
 clear hk1 hb4 HP3 HI1 HI2
 go_wp2_with fail
 refine (CC2.out _ _ _ HI2b.out).mono ?_
 rintro e w5 ⟨G2, rfl, hk2, hb5⟩
 have HP5 := Qf (HP4.out.below hb5)
 have HK1b := Qf (HK1.out.below hb5 HK1.out.lt)
 have HK2 := Qf hk2
 clear hk2 hb5 HP4 HI2b HK1
 go_wp2_with fail
 go_loopw [0] (fun l_ wr => l_ = .slice (some ⟨b, off, none⟩) M cap /\ Hid (wr = w5)) (fun _ _ => 0)
 case atStart => exact ⟨rfl, Qf (Eq.refl _)⟩
 case round =>
  obtain ⟨rfl, hwr⟩ := hrel
  have hw2 := hwr.out
  subst hw2
  clear hwr
  go_wp2_with fail
  refine (CP1.out _ _ HP5.out).mono ?_
  rintro e w6 ⟨rfl, v6, hp6, hk6⟩
  have HP6 := Qf hp6
  have HK6 := Qf hk6
  clear hp6 hk6
  go_wp2_with fail
  refine (CP2.out _ _ HP6.out).mono ?_
  rintro e w7 ⟨rfl, v7, hp7, hk7⟩
  have HP7 := Qf hp7
  have HK7 := Qf (HK6.out.trans hk7)
  clear hp7 hk7
  go_wp2_with fail
  refine (CBody.out _ v7 G1 G2 HP7.out (HK7.out G1 88 _ (by decide) (by decide) HK1b.out) (HK7.out G2 88 _ (by decide) (by decide) HK2.out)).mono ?_
  rintro e w8 ⟨rfl, v8, hp8, -⟩
  have HP8 := Qf hp8
  clear hp8
  go_wp2_with fail
  all_goals
   refine (CAl.out _ v8 HP8.out).mono ?_
   rintro e w9 ⟨rfl, hb9⟩
   have HB9 := Qf ((HP8.out.below hb9).2.1)
   clear hb9
   go_wp2_with fail
   go_ret
   exact ⟨rfl, HB9.out⟩
def ln (L : List Int) (i : Nat) : Int := L.getD i 0
def runN (L : List Int) (i : Nat) : Nat := ((L.drop i).takeWhile fun x => x == ln L i).length
structure Stp where
 sym : Int
 more : Int
def stepAt (L : List Int) (i : Nat) : Stp × Nat :=
 if ln L i = 0 /\ 11 <= runN L i then (⟨18, ((min (runN L i) 138 : Nat) : Int) - 11⟩, min (runN L i) 138)
 else if ln L i = 0 /\ 3 <= runN L i then (⟨17, ((min (runN L i) 10 : Nat) : Int) - 3⟩, min (runN L i) 10)
 else if 0 < i /\ ln L i = ln L (i - 1) /\ 3 <= runN L i then (⟨16, ((min (runN L i) 6 : Nat) : Int) - 3⟩, min (runN L i) 6)
 else (⟨ln L i, 0⟩, 1)
theorem stepAt_pos (L : List Int) (i : Nat) : 1 <= (stepAt L i).2 := by
 unfold stepAt
 split
 . simp only; omega
 . split
   . simp only; omega
   . split
     . simp only; omega
     . exact Qa _
def stepsFrom (L : List Int) (i : Nat) : List Stp :=
 if i < L.length then (stepAt L i).1 :: stepsFrom L (i + (stepAt L i).2) else []
termination_by L.length - i
decreasing_by
 have := stepAt_pos L i
 omega
theorem stepsFrom_in (L : List Int) (i : Nat) (h : i < L.length) : stepsFrom L i = (stepAt L i).1 :: stepsFrom L (i + (stepAt L i).2) := by
 rw [stepsFrom, if_pos h]
theorem stepsFrom_out (L : List Int) (i : Nat) (h : ¬ i < L.length) : stepsFrom L i = [] := by
 rw [stepsFrom, if_neg h]
theorem tw_len (x : Int) (M : List Int) (n : Nat) (hn : n <= M.length) (h1 : ∀ j, j < n -> M.getD j 0 = x) (h2 : n = M.length \/ M.getD n 0 ≠ x) : (M.takeWhile fun y => y == x).length = n := by
 induction M generalizing n with
 | nil => simp at hn; subst hn; rfl
 | cons y r ih =>
  cases n with
  | zero =>
   have h3 : y ≠ x := by
    rcases h2 with h | h
    . simp at h
    . simpa using h
   have : (y == x) = false := by simpa using h3
   simp [List.takeWhile, this]
  | succ n =>
   have h0 : y = x := by simpa using h1 0 (by omega)
   have : (y == x) = true := by simpa using h0
   simp only [List.takeWhile, this, List.length_cons]
   rw [ih n (by simpa using hn) (fun j hj => by simpa using h1 (j + 1) (by omega)) (by
    rcases h2 with h | h
    . left; simpa using h
    . right; simpa using h)]
theorem runN_eq (L : List Int) (i n : Nat) (hn : i + n <= L.length) (h1 : ∀ j, j < n -> ln L (i + j) = ln L i) (h2 : i + n = L.length \/ ln L (i + n) ≠ ln L i) : runN L i = n := by
 have hd : ∀ j, (L.drop i).getD j 0 = ln L (i + j) := fun j => by simp [ln, List.getD]
 refine tw_len (ln L i) (L.drop i) n (by rw [List.length_drop]; omega) (fun j hj => by rw [hd]; exact h1 j hj) ?_
 rw [hd, List.length_drop]
 rcases h2 with h | h
 . left; omega
 . exact .inr h
theorem tw_spec (x : Int) : ∀ (M : List Int) (j : Nat), j < (M.takeWhile fun y => y == x).length -> M.getD j 0 = x /\ j < M.length := by
 intro M
 induction M with
 | nil => intro j h; simp at h
 | cons y r ih =>
  intro j h
  by_cases e : (y == x) = true
  . rw [List.takeWhile_cons, if_pos e, List.length_cons] at h
    cases j with
    | zero => exact ⟨by simpa using e, by simp⟩
    | succ j =>
     obtain ⟨a, b⟩ := ih j (by omega)
     exact ⟨by simpa using a, by simpa using b⟩
  . rw [List.takeWhile_cons, if_neg e] at h
    simp at h
theorem run_spec (L : List Int) (i j : Nat) (h : j < runN L i) : ln L (i + j) = ln L i /\ i + j < L.length := by
 obtain ⟨a, b⟩ := tw_spec (ln L i) (L.drop i) j h
 rw [List.length_drop] at b
 refine ⟨?_, by omega⟩
 rw [<- a]
 simp [ln, List.getD]
theorem run_pos (L : List Int) (i : Nat) (h : i < L.length) : 1 <= runN L i := by
 unfold runN
 rw [List.drop_eq_getElem_cons h]
 have : (L[i] == ln L i) = true := by simp [ln, List.getD, h]
 rw [List.takeWhile_cons, if_pos this]
 simp
def stepE (K : Nat -> Nat) (t : Stp) : List (Nat × Nat) :=
 symE K 19 t.sym.toNat :: (if t.sym = 16 then [(t.more.toNat, 2)] else if t.sym = 17 then [(t.more.toNat, 3)] else if t.sym = 18 then [(t.more.toNat, 7)] else [])
def nL (L : List Int) : List Nat := L.map Int.toNat
theorem nL_len (L : List Int) : (nL L).length = L.length := by simp [nL]
theorem nL_get (L : List Int) (i : Nat) (h : i < L.length) : (nL L)[i]'(by rw [nL_len]; exact h) = (ln L i).toNat := by simp [nL, ln, List.getD, h]
theorem nL_take (L : List Int) (i n : Nat) (h : i + n <= L.length) (hr : ∀ j, j < n -> ln L (i + j) = ln L i) : (nL L).take (i + n) = (nL L).take i ++ List.replicate n (ln L i).toNat := by
 induction n with
 | zero => simp
 | succ n ih =>
  rw [<- Nat.add_assoc, List.take_succ_eq_append_getElem (by rw [nL_len]; omega), ih (by omega) (fun j hj => hr j (by omega)), nL_get L (i + n) (by omega), hr n (by omega), List.replicate_succ', List.append_assoc]
theorem step_rd (L : List Int) (hL : ∀ i, 0 <= ln L i /\ ln L i <= 15) {K : Nat -> Nat} (hK : ∀ i, i < 19 -> K i <= 15) (hp : parts K 19 <= 32768) (i : Nat) (hi : i < L.length) (hu : 0 < K (stepAt L i).1.sym.toNat) (l : List (Nat × Nat)) (Y m out : Nat) :
 lenStep K (rd (stepE K (stepAt L i).1 ++ l) Y m out) ((nL L).take i) = .ok ((nL L).take (i + (stepAt L i).2), rd l Y m out) /\ i + (stepAt L i).2 <= L.length := by
 have hrp := run_pos L i hi
 have hend := (run_spec L i (runN L i - 1) (by omega)).2
 obtain ⟨b0, b15⟩ := hL i
 have key : ∀ n, n <= runN L i -> (nL L).take (i + n) = (nL L).take i ++ List.replicate n (ln L i).toNat := fun n hn => nL_take L i n (by omega) fun j hj => (run_spec L i j (by omega)).1
 unfold stepAt at hu ⊢
 by_cases h18 : ln L i = 0 /\ 11 <= runN L i
 . rw [if_pos h18] at hu ⊢
   obtain ⟨n, hn⟩ : ∃ n, min (runN L i) 138 = n := ⟨_, rfl⟩
   simp only [hn] at hu ⊢
   refine ⟨?_, by omega⟩
   have e : stepE K ⟨18, (n : Int) - 11⟩ = [symE K 19 18, (((n : Int) - 11).toNat, 7)] := rfl
   rw [e, key n (by omega), h18.1]
   unfold lenStep
   show thenR (symM K 19 (rd (symE K 19 18 :: (((n : Int) - 11).toNat, 7) :: l) Y m out)) _ = _
   have hu' : 0 < K 18 := hu
   rw [sym_rd hK hp (by decide) hu', thenR_ok, if_neg (by decide), if_neg (by decide), if_pos rfl, bits_rd' (by omega), thenR_ok, show 11 + ((n : Int) - 11).toNat = n by omega]
   rfl
 . rw [if_neg h18] at hu ⊢
   by_cases h17 : ln L i = 0 /\ 3 <= runN L i
   . rw [if_pos h17] at hu ⊢
     obtain ⟨n, hn⟩ : ∃ n, min (runN L i) 10 = n := ⟨_, rfl⟩
     simp only [hn] at hu ⊢
     refine ⟨?_, by omega⟩
     have e : stepE K ⟨17, (n : Int) - 3⟩ = [symE K 19 17, (((n : Int) - 3).toNat, 3)] := rfl
     rw [e, key n (by omega), h17.1]
     unfold lenStep
     show thenR (symM K 19 (rd (symE K 19 17 :: (((n : Int) - 3).toNat, 3) :: l) Y m out)) _ = _
     have hu' : 0 < K 17 := hu
     rw [sym_rd hK hp (by decide) hu', thenR_ok, if_neg (by decide), if_pos rfl, bits_rd' (by omega), thenR_ok, show 3 + ((n : Int) - 3).toNat = n by omega]
     rfl
   . rw [if_neg h17] at hu ⊢
     by_cases h16 : 0 < i /\ ln L i = ln L (i - 1) /\ 3 <= runN L i
     . rw [if_pos h16] at hu ⊢
       obtain ⟨n, hn⟩ : ∃ n, min (runN L i) 6 = n := ⟨_, rfl⟩
       simp only [hn] at hu ⊢
       refine ⟨?_, by omega⟩
       have e : stepE K ⟨16, (n : Int) - 3⟩ = [symE K 19 16, (((n : Int) - 3).toNat, 2)] := rfl
       have htl : (nL L).take i = (nL L).take (i - 1) ++ [(ln L i).toNat] := by
        have h1 : i - 1 + 1 = i := by omega
        have h2 := List.take_succ_eq_append_getElem (l := nL L) (i := i - 1) (by rw [nL_len]; omega)
        rw [h1, nL_get L (i - 1) (by omega), <- h16.2.1] at h2
        exact h2
       have hne : (nL L).take i ≠ [] := by rw [htl]; simp
       have hlast : ((nL L).take i).getLastD 0 = (ln L i).toNat := by rw [htl]; simp
       rw [e, key n (by omega)]
       unfold lenStep
       show thenR (symM K 19 (rd (symE K 19 16 :: (((n : Int) - 3).toNat, 2) :: l) Y m out)) _ = _
       have hu' : 0 < K 16 := hu
       rw [sym_rd hK hp (by decide) hu', thenR_ok, if_pos rfl, if_neg hne, bits_rd' (by omega), thenR_ok, hlast, show 3 + ((n : Int) - 3).toNat = n by omega]
     . rw [if_neg h16] at hu ⊢
       refine ⟨?_, by show i + 1 <= _; omega⟩
       have e : stepE K ⟨ln L i, 0⟩ = [symE K 19 (ln L i).toNat] := by
        unfold stepE
        simp only
        rw [if_neg (by omega), if_neg (by omega), if_neg (by omega)]
       simp only at hu
       rw [e, key 1 hrp]
       unfold lenStep
       show thenR (symM K 19 (rd (symE K 19 (ln L i).toNat :: l) Y m out)) _ = _
       rw [sym_rd hK hp (by omega) hu, thenR_ok, if_neg (by omega), if_neg (by omega), if_neg (by omega)]
       rfl
theorem steps_rd (L : List Int) (hL : ∀ i, 0 <= ln L i /\ ln L i <= 15) {K : Nat -> Nat} (hK : ∀ i, i < 19 -> K i <= 15) (hp : parts K 19 <= 32768) (l : List (Nat × Nat)) (Y m out : Nat) : ∀ (f i : Nat), i <= L.length -> (stepsFrom L i).length < f -> (∀ t ∈ stepsFrom L i, 0 < K t.sym.toNat) ->
 lenLoop K L.length f (rd ((stepsFrom L i).flatMap (stepE K) ++ l) Y m out) ((nL L).take i) = .ok (nL L, rd l Y m out) := by
 intro f
 induction f with
 | zero => intro i _ h; omega
 | succ f ih =>
  intro i hi hf hu
  have hlen : ((nL L).take i).length = i := by rw [List.length_take, nL_len]; omega
  by_cases hlt : i < L.length
  . have hst := stepsFrom_in L i hlt
    rw [hst] at hu hf ⊢
    rw [List.length_cons] at hf
    obtain ⟨h1, h2⟩ := step_rd L hL hK hp i hlt (hu _ (List.mem_cons_self ..)) ((stepsFrom L (i + (stepAt L i).2)).flatMap (stepE K) ++ l) Y m out
    have hpos := stepAt_pos L i
    rw [List.flatMap_cons, List.append_assoc]
    show (if ((nL L).take i).length < L.length then _ else _) = _
    rw [hlen, if_pos hlt, h1, thenR_ok]
    exact ih _ h2 (by omega) fun t ht => hu t (List.mem_cons_of_mem _ ht)
  . have hie : i = L.length := by omega
    rw [stepsFrom_out L i hlt]
    show (if ((nL L).take i).length < L.length then _ else _) = _
    rw [hlen, if_neg hlt, List.take_of_length_le (by rw [nL_len]; omega)]
    rfl
theorem steps_len (K : Nat -> Nat) (T : List Stp) (h : ∀ t ∈ T, 0 < K t.sym.toNat) : T.length <= encN (T.flatMap (stepE K)) := by
 induction T with
 | nil => exact Nat.zero_le _
 | cons t T ih =>
  rw [List.flatMap_cons, encN_app, List.length_cons]
  have h1 := ih fun x hx => h x (List.mem_cons_of_mem _ hx)
  have h2 := h t (List.mem_cons_self ..)
  have h3 : K t.sym.toNat <= encN (stepE K t) := by unfold stepE; simp only [encN, symE]; omega
  omega
theorem first_rd (K : Nat -> Nat) (hK : ∀ i, K i <= 7) (l : List (Nat × Nat)) (Y mm out : Nat) : ∀ (r : List Nat) (m : Nat -> Int), firstM r m (rd (r.map (fun s => (K s, 3)) ++ l) Y mm out) = .ok ((fun i => if i ∈ r then (K i : Int) else m i), rd l Y mm out) := by
 intro r
 induction r with
 | nil =>
  intro m
  show Except.ok (m, _) = _
  have e : (fun i => if i ∈ ([] : List Nat) then (K i : Int) else m i) = m := by funext i; rw [if_neg (by simp)]
  rw [e]
  rfl
 | cons s r ih =>
  intro m
  have hs := hK s
  show thenR (bitsM 3 (rd ((K s, 3) :: (r.map (fun s => (K s, 3)) ++ l)) Y mm out)) _ = _
  rw [bits_rd' (by omega), thenR_ok, ih]
  have e : (fun i => if i ∈ r then (K i : Int) else if i = s then ((K s : Nat) : Int) else m i) = (fun i => if i ∈ s :: r then (K i : Int) else m i) := by
   funext i
   by_cases h1 : i ∈ r
   . rw [if_pos h1, if_pos (List.mem_cons_of_mem _ h1)]
   . rw [if_neg h1]
     by_cases h2 : i = s
     . rw [if_pos h2, if_pos (by rw [h2]; exact List.mem_cons_self ..), h2]
     . rw [if_neg h2, if_neg (by simp [h1, h2])]
  rw [e]
def headE (nl nd nc : Nat) (K : Nat -> Nat) (L : List Int) : List (Nat × Nat) :=
 (nl - 257, 5) :: (nd - 1, 5) :: (nc - 4, 4) :: ((ordL.take nc).map (fun s => (K s, 3)) ++ (stepsFrom L 0).flatMap (stepE K))
theorem dyn_rd (nl nd nc : Nat) (K : Nat -> Nat) (L : List Int) (h1 : 257 <= nl /\ nl <= 286) (h2 : 1 <= nd /\ nd <= 30) (h3 : 4 <= nc /\ nc <= 19) (hlen : L.length = nl + nd) (hK : ∀ i, K i <= 7) (hin : ∀ i, K i ≠ 0 -> i ∈ ordL.take nc)
 (hfit : Fits (parts K 19) (someOf K 19)) (hL : ∀ i, 0 <= ln L i /\ ln L i <= 15) (hu : ∀ t ∈ stepsFrom L 0, 0 < K t.sym.toNat) (h256 : (nL L).getD 256 0 ≠ 0) (l : List (Nat × Nat)) (Y m out : Nat) :
 dynM (rd (headE nl nd nc K L ++ l) Y m out) = .ok ((nL L, nl), rd l Y m out) := by
 unfold dynM headE
 have e0 : (nl - 257, 5) :: (nd - 1, 5) :: (nc - 4, 4) :: ((ordL.take nc).map (fun s => (K s, 3)) ++ (stepsFrom L 0).flatMap (stepE K)) ++ l = (nl - 257, 5) :: (nd - 1, 5) :: (nc - 4, 4) :: ((ordL.take nc).map (fun s => (K s, 3)) ++ ((stepsFrom L 0).flatMap (stepE K) ++ l)) := by simp
 rw [e0, bits_rd' (by omega), thenR_ok, bits_rd' (by omega), thenR_ok, bits_rd' (by omega), thenR_ok, if_neg (by omega), show nc - 4 + 4 = nc by omega, first_rd K hK, thenR_ok]
 have hm : lens (fun i => if i ∈ ordL.take nc then (K i : Int) else 0) = K := by
  funext i
  show (if i ∈ ordL.take nc then (K i : Int) else 0).toNat = K i
  by_cases h : i ∈ ordL.take nc
  . rw [if_pos h]; rfl
  . rw [if_neg h]
    by_cases hz : K i = 0
    . rw [hz]; rfl
    . exact absurd (hin i hz) h
 have hf : fitM (fun i => if i ∈ ordL.take nc then (K i : Int) else 0) 19 (rd ((stepsFrom L 0).flatMap (stepE K) ++ l) Y m out) = .ok ((), rd ((stepsFrom L 0).flatMap (stepE K) ++ l) Y m out) := by
  unfold fitM checkM
  rw [hm, if_pos hfit]
 rw [hf, thenR_ok, hm, show nl - 257 + 257 + (nd - 1 + 1) = L.length by omega]
 have hs := steps_rd L hL (fun i _ => Qe (hK i) (by decide)) hfit.1 l Y m out ((rd ((stepsFrom L 0).flatMap (stepE K) ++ l) Y m out).n + 1) 0 (Nat.zero_le _) (by
  rw [rd_n, encN_app]
  have := steps_len K (stepsFrom L 0) hu
  omega) hu
 rw [List.take_zero] at hs
 rw [hs, thenR_ok, if_neg (by rw [nL_len]; omega), show nl - 257 + 257 = nl by omega]
noncomputable def litN (L : List Int) (nl : Nat) : Nat -> Nat := lens (lenF ((nL L).take nl))
noncomputable def dstN (L : List Int) (nl : Nat) : Nat -> Nat := lens (lenF ((nL L).drop nl))
theorem nL_15 (L : List Int) (hL : ∀ i, 0 <= ln L i /\ ln L i <= 15) : ∀ y ∈ nL L, y <= 15 := by
 intro y hy
 obtain ⟨i, hi, rfl⟩ := List.mem_iff_getElem.1 hy
 rw [nL_get L i (by rw [<- nL_len]; exact hi)]
 have := hL i
 omega
theorem litN_15 (L : List Int) (hL : ∀ i, 0 <= ln L i /\ ln L i <= 15) (nl : Nat) : ∀ i, litN L nl i <= 15 := fun i =>
 lens_15 _ (i + 1) (fun j => lenF_15 _ (fun y hy => nL_15 L hL y (List.mem_of_mem_take hy)) j) i (Nat.lt_succ_self i)
theorem dstN_15 (L : List Int) (hL : ∀ i, 0 <= ln L i /\ ln L i <= 15) (nl : Nat) : ∀ i, dstN L nl i <= 15 := fun i =>
 lens_15 _ (i + 1) (fun j => lenF_15 _ (fun y hy => nL_15 L hL y (List.mem_of_mem_drop hy)) j) i (Nat.lt_succ_self i)
noncomputable def dynE (nl nd nc : Nat) (K : Nat -> Nat) (L : List Int) (S : List Tok) : List (Nat × Nat) := (1, 1) :: (2, 2) :: (headE nl nd nc K L ++ (toksE (litN L nl) nl (dstN L nl) nd S ++ [symE (litN L nl) nl 256]))
theorem dyn_infl (nl nd nc : Nat) (K : Nat -> Nat) (L : List Int) (S : List Tok) (most : Nat) (T : List UInt8) (h1 : 257 <= nl /\ nl <= 286) (h2 : 1 <= nd /\ nd <= 30) (h3 : 4 <= nc /\ nc <= 19) (hlen : L.length = nl + nd) (hK : ∀ i, K i <= 7) (hin : ∀ i, K i ≠ 0 -> i ∈ ordL.take nc)
 (hfit : Fits (parts K 19) (someOf K 19)) (hL : ∀ i, 0 <= ln L i /\ ln L i <= 15) (hu : ∀ t ∈ stepsFrom L 0, 0 < K t.sym.toNat) (h256 : (nL L).getD 256 0 ≠ 0)
 (hf1 : Fits (parts (litN L nl) nl) (someOf (litN L nl) nl)) (hf2 : Fits (parts (dstN L nl) nd) (someOf (dstN L nl) nd)) (h256b : 0 < litN L nl 256)
 (hS : ∀ t ∈ S, TokHas (litN L nl) (dstN L nl) t /\ (t.l ≠ 0 -> 257 + lsym t < nl /\ dsym t < nd)) (h : texp (most : Int) [] S = (T, 0)) :
 inflR (encB (dynE nl nd nc K L S)) most = .ok ([⟨2, [], S⟩], ⟨0, 8 * ((encN (dynE nl nd nc K L S) + 7) / 8) - encN (dynE nl nd nc K L S), T.length⟩) := by
 unfold inflR
 rw [encB_sg]
 obtain ⟨m, hm⟩ : ∃ m, 8 * ((encN (dynE nl nd nc K L S) + 7) / 8) - encN (dynE nl nd nc K L S) = m := ⟨_, rfl⟩
 rw [hm]
 have C : CodesOK (litN L nl) nl (dstN L nl) nd := ⟨fun i _ => litN_15 L hL nl i, fun i _ => dstN_15 L hL nl i, hf1.1, hf2.1, h1.1⟩
 show thenR (blockM most (rd (dynE nl nd nc K L S) 0 m 0)) _ = _
 have hb : blockM most (rd (dynE nl nd nc K L S) 0 m 0) = .ok ((1, ⟨2, [], S⟩), rd [] 0 m (0 + tlenS S)) := by
  unfold blockM dynE
  rw [bits_rd' (by decide), thenR_ok, bits_rd' (by decide), thenR_ok, if_neg (by decide), if_neg (by decide), if_pos rfl, dyn_rd nl nd nc K L h1 h2 h3 hlen hK hin hfit hL hu h256, thenR_ok]
  have hd : (nL L).length - nl = nd := by rw [nL_len]; omega
  have e0 : tokM (litN L nl) nl (dstN L nl) nd most ((rd (toksE (litN L nl) nl (dstN L nl) nd S ++ [symE (litN L nl) nl 256]) 0 m 0).n + 1) (rd (toksE (litN L nl) nl (dstN L nl) nd S ++ [symE (litN L nl) nl 256]) 0 m 0) [] = .ok ([] ++ S, rd [] 0 m (0 + tlenS S)) :=
   toks_rd C h256b [] 0 m T S [] _ [] h hS (by
    rw [rd_n, encN_app]
    have := toksE_len (litN L nl) nl (dstN L nl) nd S fun t ht => (hS t ht).1
    omega)
  have e1 : ∀ σ, fitM (lenF ((nL L).take nl)) nl σ = .ok ((), σ) := fun σ => by
   unfold fitM checkM
   rw [if_pos (by exact hf1)]
  have e2 : ∀ σ, fitM (lenF ((nL L).drop nl)) nd σ = .ok ((), σ) := fun σ => by
   unfold fitM checkM
   rw [if_pos (by exact hf2)]
  have e3 : tokensM (lenF ((nL L).take nl)) nl (lenF ((nL L).drop nl)) nd most (rd (toksE (litN L nl) nl (dstN L nl) nd S ++ [symE (litN L nl) nl 256]) 0 m 0) = .ok (S, rd [] 0 m (0 + tlenS S)) := by
   unfold tokensM
   rw [e1, thenR_ok, e2, thenR_ok]
   exact e0
  show thenR (tokensM (lenF ((nL L).take nl)) nl (lenF ((nL L).drop nl)) ((nL L).length - nl) most _) _ = _
  rw [hd, e3, thenR_ok]
 rw [hb, thenR_ok]
 have e : (rd [] 0 m (0 + tlenS S)) = ⟨0, m, T.length⟩ := by
  have := joinS_len S []
  rw [texp_join _ S [] T h] at this
  unfold rd encV encN
  rw [this]
  simp
 rw [e]
 rfl
def mrg {α : Type} (w : α -> Int) : List α -> List α -> List α
 | [], r => r
 | a :: l, [] => a :: l
 | a :: l, b :: r => if w b < w a then b :: mrg w (a :: l) r else a :: mrg w l (b :: r)
termination_by l r => l.length + r.length
section
variable {α : Type} (w : α -> Int)
theorem mrg_nil (l : List α) : mrg w [] l = l := by unfold mrg; rfl
theorem mrg_nil' (l : List α) : mrg w l [] = l := by cases l <;> unfold mrg <;> rfl
theorem mrg_cons (a b : α) (l r : List α) : mrg w (a :: l) (b :: r) = if w b < w a then b :: mrg w (a :: l) r else a :: mrg w l (b :: r) := by rw [mrg]
theorem mrg_assoc : ∀ (n : Nat) (a b c : List α), a.length + b.length + c.length <= n -> mrg w (mrg w a b) c = mrg w a (mrg w b c) := by
 intro n
 induction n with
 | zero =>
  intro a b c h
  have : a = [] := List.eq_nil_of_length_eq_zero (by omega)
  subst this
  rw [mrg_nil, mrg_nil]
 | succ n ih =>
  intro a b c h
  cases a with
  | nil => rw [mrg_nil, mrg_nil]
  | cons x l =>
   cases b with
   | nil => rw [mrg_nil', mrg_nil]
   | cons y r =>
    cases c with
    | nil => rw [mrg_nil', mrg_nil']
    | cons z s =>
     simp only [List.length_cons] at h
     rw [mrg_cons w x y l r, mrg_cons w y z r s]
     by_cases h1 : w y < w x
     . rw [if_pos h1]
       by_cases h2 : w z < w y
       . rw [if_pos h2, mrg_cons w y z, if_pos h2, mrg_cons w x z, if_pos (by omega)]
         have := ih (x :: l) (y :: r) s (by simp only [List.length_cons]; omega)
         rw [mrg_cons w x y l r, if_pos h1] at this
         rw [this]
       . rw [if_neg h2, mrg_cons w y z, if_neg h2, mrg_cons w x y, if_pos h1]
         rw [ih (x :: l) r (z :: s) (by simp only [List.length_cons]; omega)]
     . rw [if_neg h1]
       by_cases h2 : w z < w y
       . rw [if_pos h2]
         by_cases h3 : w z < w x
         . rw [mrg_cons w x z, if_pos h3, mrg_cons w x z, if_pos h3]
           have := ih (x :: l) (y :: r) s (by simp only [List.length_cons]; omega)
           rw [mrg_cons w x y l r, if_neg h1] at this
           rw [this]
         . rw [mrg_cons w x z, if_neg h3, mrg_cons w x z, if_neg h3]
           have := ih l (y :: r) (z :: s) (by simp only [List.length_cons]; omega)
           rw [mrg_cons w y z r s, if_pos h2] at this
           rw [this]
       . rw [if_neg h2, mrg_cons w x z, if_neg (by omega), mrg_cons w x y, if_neg h1]
         have := ih l (y :: r) (z :: s) (by simp only [List.length_cons]; omega)
         rw [mrg_cons w y z r s, if_neg h2] at this
         rw [this]
theorem mrg_perm : ∀ (n : Nat) (a b : List α), a.length + b.length <= n -> List.Perm (mrg w a b) (a ++ b) := by
 intro n
 induction n with
 | zero =>
  intro a b h
  have : a = [] := List.eq_nil_of_length_eq_zero (by omega)
  subst this
  rw [mrg_nil]; exact List.Perm.refl _
 | succ n ih =>
  intro a b h
  cases a with
  | nil => rw [mrg_nil]; exact List.Perm.refl _
  | cons x l =>
   cases b with
   | nil => rw [mrg_nil', List.append_nil]
   | cons y r =>
    simp only [List.length_cons] at h
    rw [mrg_cons]
    split
    . refine ((ih (x :: l) r (by simp only [List.length_cons]; omega)).cons y).trans ?_
      exact (List.perm_middle (a := y) (l₁ := x :: l) (l₂ := r)).symm
    . exact (ih l (y :: r) (by simp only [List.length_cons]; omega)).cons x
theorem mrg_len (a b : List α) : (mrg w a b).length = a.length + b.length := by
 rw [(mrg_perm w _ a b (Qa _)).length_eq, List.length_append]
theorem mem_mrg (a b : List α) (x : α) : x ∈ mrg w a b ↔ x ∈ a \/ x ∈ b := by
 rw [(mrg_perm w _ a b (Qa _)).mem_iff, List.mem_append]
def Srt (l : List α) : Prop := l.Pairwise fun a b => w a <= w b
theorem mrg_srt : ∀ (n : Nat) (a b : List α), a.length + b.length <= n -> Srt w a -> Srt w b -> Srt w (mrg w a b) := by
 intro n
 induction n with
 | zero =>
  intro a b h ha hb
  have : a = [] := List.eq_nil_of_length_eq_zero (by omega)
  subst this
  rw [mrg_nil]; exact hb
 | succ n ih =>
  intro a b h ha hb
  cases a with
  | nil => rw [mrg_nil]; exact hb
  | cons x l =>
   cases b with
   | nil => rw [mrg_nil']; exact ha
   | cons y r =>
    simp only [List.length_cons] at h
    have ha' := List.pairwise_cons.1 ha
    have hb' := List.pairwise_cons.1 hb
    rw [mrg_cons]
    split
    . refine List.pairwise_cons.2 ⟨fun z hz => ?_, ih _ _ (by simp only [List.length_cons]; omega) ha hb'.2⟩
      rcases (mem_mrg w _ _ z).1 hz with h1 | h1
      . rcases List.mem_cons.1 h1 with rfl | h1
        . omega
        . have := ha'.1 z h1; omega
      . exact hb'.1 z h1
    . refine List.pairwise_cons.2 ⟨fun z hz => ?_, ih _ _ (by simp only [List.length_cons]; omega) ha'.2 hb⟩
      rcases (mem_mrg w _ _ z).1 hz with h1 | h1
      . exact ha'.1 z h1
      . rcases List.mem_cons.1 h1 with rfl | h1
        . omega
        . have := hb'.1 z h1; omega
theorem mrg_split : ∀ (n : Nat) (l1 l2 r1 r2 : List α), l1.length + r1.length <= n -> (∀ x ∈ l2, ∀ y ∈ r1, w y < w x) -> (∀ x ∈ l1, ∀ y ∈ r2, w x <= w y) -> mrg w (l1 ++ l2) (r1 ++ r2) = mrg w l1 r1 ++ mrg w l2 r2 := by
 intro n
 induction n with
 | zero =>
  intro l1 l2 r1 r2 h _ _
  have e1 : l1 = [] := List.eq_nil_of_length_eq_zero (by omega)
  have e2 : r1 = [] := List.eq_nil_of_length_eq_zero (by omega)
  subst e1 e2
  rw [mrg_nil]; rfl
 | succ n ih =>
  intro l1 l2 r1 r2 h h1 h2
  cases l1 with
  | nil =>
   cases r1 with
   | nil => rw [mrg_nil]; rfl
   | cons y r1 =>
    rw [mrg_nil, List.nil_append]
    have hy : ∀ x ∈ l2, w y < w x := fun x hx => h1 x hx y (List.mem_cons_self ..)
    have := ih [] l2 r1 r2 (by simp only [List.length_cons, List.length_nil] at h ⊢; omega) (fun x hx z hz => h1 x hx z (List.mem_cons_of_mem _ hz)) (fun x hx => by cases hx)
    rw [mrg_nil, List.nil_append] at this
    cases l2 with
    | nil => rw [mrg_nil, mrg_nil]
    | cons x l2 =>
     rw [List.cons_append, mrg_cons, if_pos (hy x (List.mem_cons_self ..)), this]; rfl
  | cons x l1 =>
   cases r1 with
   | nil =>
    rw [mrg_nil', List.nil_append]
    have := ih l1 l2 [] r2 (by simp only [List.length_cons, List.length_nil] at h ⊢; omega) (fun x hx z hz => by cases hz) (fun z hz => h2 z (List.mem_cons_of_mem _ hz))
    rw [mrg_nil', List.nil_append] at this
    cases r2 with
    | nil => rw [mrg_nil', mrg_nil']
    | cons y r2 =>
     have hxy := h2 x (List.mem_cons_self ..) y (List.mem_cons_self ..)
     rw [List.cons_append, mrg_cons, if_neg (by omega), this]; rfl
   | cons y r1 =>
    simp only [List.length_cons] at h
    rw [List.cons_append, List.cons_append, mrg_cons, mrg_cons]
    split
    . have := ih (x :: l1) l2 r1 r2 (by simp only [List.length_cons]; omega) (fun x hx z hz => h1 x hx z (List.mem_cons_of_mem _ hz)) h2
      rw [List.cons_append] at this
      rw [this]; rfl
    . have := ih l1 l2 (y :: r1) r2 (by simp only [List.length_cons]; omega) h1 (fun z hz => h2 z (List.mem_cons_of_mem _ hz))
      rw [List.cons_append] at this
      rw [this]; rfl
def isort (l : List α) : List α := l.foldl (fun acc x => mrg w acc [x]) []
theorem isort_nil : isort w [] = [] := rfl
theorem isort_snoc (l : List α) (x : α) : isort w (l ++ [x]) = mrg w (isort w l) [x] := by unfold isort; rw [List.foldl_append]; rfl
theorem isort_app (a b : List α) : isort w (a ++ b) = mrg w (isort w a) (isort w b) := by
 have key : ∀ (n : Nat) (b : List α), b.length = n -> isort w (a ++ b) = mrg w (isort w a) (isort w b) := by
  intro n
  induction n with
  | zero =>
   intro b h
   have : b = [] := List.eq_nil_of_length_eq_zero h
   subst this
   rw [List.append_nil, isort_nil, mrg_nil']
  | succ n ih =>
   intro b h
   have hne : b ≠ [] := by intro e; subst e; simp at h
   obtain ⟨c, x, rfl⟩ : ∃ c x, b = c ++ [x] := ⟨b.dropLast, b.getLast hne, (List.dropLast_concat_getLast hne).symm⟩
   rw [List.length_append] at h
   simp only [List.length_cons, List.length_nil] at h
   rw [<- List.append_assoc, isort_snoc, ih c (by omega), isort_snoc, mrg_assoc w _ _ _ _ (Qa _)]
 exact key _ b rfl
theorem isort_perm (l : List α) : List.Perm (isort w l) l := by
 have key : ∀ (n : Nat) (b : List α), b.length = n -> List.Perm (isort w b) b := by
  intro n
  induction n with
  | zero =>
   intro b h
   have : b = [] := List.eq_nil_of_length_eq_zero h
   subst this
   exact List.Perm.refl _
  | succ n ih =>
   intro b h
   have hne : b ≠ [] := by intro e; subst e; simp at h
   obtain ⟨c, x, rfl⟩ : ∃ c x, b = c ++ [x] := ⟨b.dropLast, b.getLast hne, (List.dropLast_concat_getLast hne).symm⟩
   rw [List.length_append] at h
   simp only [List.length_cons, List.length_nil] at h
   rw [isort_snoc]
   exact (mrg_perm w _ _ _ (Qa _)).trans ((ih c (by omega)).append (List.Perm.refl _))
 exact key _ l rfl
theorem isort_srt (l : List α) : Srt w (isort w l) := by
 have key : ∀ (n : Nat) (b : List α), b.length = n -> Srt w (isort w b) := by
  intro n
  induction n with
  | zero =>
   intro b h
   have : b = [] := List.eq_nil_of_length_eq_zero h
   subst this
   exact List.Pairwise.nil
  | succ n ih =>
   intro b h
   have hne : b ≠ [] := by intro e; subst e; simp at h
   obtain ⟨c, x, rfl⟩ : ∃ c x, b = c ++ [x] := ⟨b.dropLast, b.getLast hne, (List.dropLast_concat_getLast hne).symm⟩
   rw [List.length_append] at h
   simp only [List.length_cons, List.length_nil] at h
   rw [isort_snoc]
   exact mrg_srt w _ _ _ (Qa _) (ih c (by omega)) (List.pairwise_cons.2 ⟨fun z hz => (by cases hz), List.Pairwise.nil⟩)
 exact key _ l rfl
theorem mrg_single (l1 l2 : List α) (x : α) (h1 : ∀ y ∈ l1, w y <= w x) (h2 : ∀ y ∈ l2, w x < w y) : mrg w (l1 ++ l2) [x] = l1 ++ x :: l2 := by
 have e : mrg w (l1 ++ l2) ([] ++ [x]) = mrg w l1 [] ++ mrg w l2 [x] := mrg_split w _ l1 l2 [] [x] (Qa _) (fun _ _ y hy => by cases hy) (fun y hy z hz => by
  rcases List.mem_cons.1 hz with rfl | hz
  . exact h1 y hy
  . cases hz)
 rw [List.nil_append, mrg_nil'] at e
 rw [e]
 congr 1
 cases l2 with
 | nil => rw [mrg_nil]
 | cons y r => rw [mrg_cons, if_pos (h2 y (List.mem_cons_self ..)), mrg_nil']
theorem single_mrg (r1 r2 : List α) (x : α) (h1 : ∀ y ∈ r1, w y < w x) (h2 : ∀ y ∈ r2, w x <= w y) : mrg w [x] (r1 ++ r2) = r1 ++ x :: r2 := by
 have e : mrg w ([] ++ [x]) (r1 ++ r2) = mrg w [] r1 ++ mrg w [x] r2 := mrg_split w _ [] [x] r1 r2 (Qa _) (fun y hy z hz => by
  rcases List.mem_cons.1 hy with rfl | hy
  . exact h1 z hz
  . cases hy) (fun _ hy => by cases hy)
 rw [List.nil_append, mrg_nil] at e
 rw [e]
 congr 1
 cases r2 with
 | nil => rw [mrg_nil']
 | cons y r => rw [mrg_cons, if_neg (by have := h2 y (List.mem_cons_self ..); omega), mrg_nil]
theorem srt_isort : ∀ (l : List α), Srt w l -> isort w l = l := by
 intro l h
 have key : ∀ (n : Nat) (b : List α), b.length = n -> Srt w b -> isort w b = b := by
  intro n
  induction n with
  | zero =>
   intro b h _
   have : b = [] := List.eq_nil_of_length_eq_zero h
   subst this
   rfl
  | succ n ih =>
   intro b h hs
   have hne : b ≠ [] := by intro e; subst e; simp at h
   obtain ⟨c, x, rfl⟩ : ∃ c x, b = c ++ [x] := ⟨b.dropLast, b.getLast hne, (List.dropLast_concat_getLast hne).symm⟩
   rw [List.length_append] at h
   simp only [List.length_cons, List.length_nil] at h
   have hs' := List.pairwise_append.1 hs
   rw [isort_snoc, ih c (by omega) hs'.1]
   have := mrg_single w c [] x (fun y hy => hs'.2.2 y hy x (List.mem_cons_self ..)) (fun y hy => by cases hy)
   rw [List.append_nil] at this
   exact this
 exact key _ l rfl h
def seg (f : Nat -> α) (a b : Nat) : List α := (List.range (b - a)).map fun k => f (a + k)
theorem seg_len (f : Nat -> α) (a b : Nat) : (seg f a b).length = b - a := by simp [seg]
theorem seg_get (f : Nat -> α) (a b k : Nat) (h : k < b - a) : (seg f a b)[k]? = some (f (a + k)) := by simp [seg, h]
theorem seg_app (f : Nat -> α) (a m b : Nat) (h1 : a <= m) (h2 : m <= b) : seg f a b = seg f a m ++ seg f m b := by
 unfold seg
 rw [show b - a = (m - a) + (b - m) by omega, List.range_add, List.map_append, List.map_map]
 congr 1
 apply List.map_congr_left
 intro k _
 show f (a + (m - a + k)) = f (m + k)
 congr 1
 omega
theorem seg_like (f g : Nat -> α) (a b c d : Nat) (hl : b - a = d - c) (h : ∀ k, k < b - a -> f (a + k) = g (c + k)) : seg f a b = seg g c d := by
 unfold seg
 rw [<- hl]
 apply List.map_congr_left
 intro k hk
 exact h k (List.mem_range.1 hk)
theorem seg_one (f : Nat -> α) (a : Nat) : seg f a (a + 1) = [f a] := by
 unfold seg
 rw [show a + 1 - a = 1 by omega]
 rfl
theorem seg_self (f : Nat -> α) (a b : Nat) (h : b <= a) : seg f a b = [] := by
 unfold seg
 rw [show b - a = 0 by omega]
 rfl
theorem mem_seg (f : Nat -> α) (a b : Nat) (x : α) (h : x ∈ seg f a b) : ∃ p, a <= p /\ p < b /\ x = f p := by
 unfold seg at h
 obtain ⟨k, hk, rfl⟩ := List.mem_map.1 h
 have := List.mem_range.1 hk
 exact ⟨a + k, by omega, by omega, rfl⟩
theorem seg_srt (f : Nat -> α) (a b : Nat) : Srt w (seg f a b) ↔ ∀ p q, a <= p -> p < q -> q < b -> w (f p) <= w (f q) := by
 constructor
 . intro h p q h1 h2 h3
   have e1 := seg_get f a b (p - a) (by omega)
   have e2 := seg_get f a b (q - a) (by omega)
   rw [show a + (p - a) = p by omega] at e1
   rw [show a + (q - a) = q by omega] at e2
   have hl := seg_len f a b
   have := (List.pairwise_iff_getElem.1 h) (p - a) (q - a) (by omega) (by omega) (by omega)
   rw [List.getElem?_eq_getElem (by omega)] at e1 e2
   injection e1 with e1
   injection e2 with e2
   rw [e1, e2] at this
   exact this
 . intro h
   refine List.pairwise_iff_getElem.2 fun i j hi hj hij => ?_
   have hl := seg_len f a b
   have e1 := seg_get f a b i (by omega)
   have e2 := seg_get f a b j (by omega)
   rw [List.getElem?_eq_getElem (by omega)] at e1 e2
   injection e1 with e1
   injection e2 with e2
   rw [e1, e2]
   exact h _ _ (by omega) (by omega) (by omega)
def sw (f : Nat -> α) (i j : Nat) : Nat -> α := fun p => if p = i then f j else if p = j then f i else f p
def mvL (f : Nat -> α) (i j : Nat) : Nat -> α := fun p => if p = j then f i else if j < p /\ p <= i then f (p - 1) else f p
theorem mvL_same (f : Nat -> α) (i : Nat) : mvL f i i = f := by
 funext p
 unfold mvL
 (repeat' split) <;> first | (exfalso; omega) | rfl | (congr 1; omega) | (congr 1)
theorem mvL_sw (f : Nat -> α) (i j : Nat) (h : j < i) : sw (mvL f i (j + 1)) (j + 1) j = mvL f i j := by
 funext p
 unfold sw mvL
 (repeat' split) <;> first | (exfalso; omega) | rfl | (congr 1; omega) | (congr 1)
def mvR (f : Nat -> α) (i j : Nat) : Nat -> α := fun p => if p = j then f i else if i <= p /\ p < j then f (p + 1) else f p
theorem mvR_same (f : Nat -> α) (i : Nat) : mvR f i i = f := by
 funext p
 unfold mvR
 (repeat' split) <;> first | (exfalso; omega) | rfl | (congr 1; omega) | (congr 1)
theorem mvR_sw (f : Nat -> α) (i j : Nat) (h : i <= j) : sw (mvR f i j) j (j + 1) = mvR f i (j + 1) := by
 funext p
 unfold sw mvR
 (repeat' split) <;> first | (exfalso; omega) | rfl | (congr 1; omega) | (congr 1)
def rot (f : Nat -> α) (a m b : Nat) : Nat -> α := fun p => if a <= p /\ p < a + (b - m) then f (p + (m - a)) else if a + (b - m) <= p /\ p < b then f (p - (b - m)) else f p
def swN (f : Nat -> α) (i j n : Nat) : Nat -> α := fun p => if i <= p /\ p < i + n then f (p - i + j) else if j <= p /\ p < j + n then f (p - j + i) else f p
theorem swN_zero (f : Nat -> α) (i j : Nat) : swN f i j 0 = f := by
 funext p
 unfold swN
 (repeat' split) <;> first | (exfalso; omega) | rfl | (congr 1; omega) | (congr 1)
theorem swN_succ (f : Nat -> α) (i j n : Nat) (h : i + n < j) : sw (swN f i j n) (i + n) (j + n) = swN f i j (n + 1) := by
 funext p
 unfold sw swN
 (repeat' split) <;> first | (exfalso; omega) | rfl | (congr 1; omega) | (congr 1)
theorem rot_even (f : Nat -> α) (m i : Nat) (h : i <= m) : swN f (m - i) m i = rot f (m - i) m (m + i) := by
 funext p
 unfold swN rot
 (repeat' split) <;> first | (exfalso; omega) | rfl | (congr 1; omega) | (congr 1)
theorem rot_left (f : Nat -> α) (m i j : Nat) (h : i <= m) (hj : j < i) : rot (swN f (m - i) m j) (m - (i - j)) m (m + j) = rot f (m - i) m (m + j) := by
 funext p
 unfold rot swN
 (repeat' split) <;> first | (exfalso; omega) | rfl | (congr 1; omega) | (congr 1)
theorem rot_right (f : Nat -> α) (m i j : Nat) (h : i <= m) (hj : i < j) : rot (swN f (m - i) (m + j - i) i) (m - i) m (m + (j - i)) = rot f (m - i) m (m + j) := by
 funext p
 unfold rot swN
 (repeat' split) <;> first | (exfalso; omega) | rfl | (congr 1; omega) | (congr 1)
end
structure Pr where
 k : Int
 a : Option Addr
 n : Nat
 c : Nat
def Pr.s (x : Pr) : Value := .slice x.a x.n x.c
def pcell (x : Nat -> Pr) (i : Nat) : Value := if i % 2 = 0 then .int .i64 (x (i / 2)).k else (x (i / 2)).s
def pcells (C : Nat) (x : Nat -> Pr) : Array Value := fcells (2 * C) (pcell x)
theorem pcells_k (C : Nat) (x : Nat -> Pr) (t i : Nat) (hi : i = t * 2) (ht : t < C) : (pcells C x)[i]? = some (.int .i64 (x t).k) := by
 subst hi
 unfold pcells
 rw [fcells_at _ _ _ (by omega)]
 unfold pcell
 rw [if_pos (by omega), show t * 2 / 2 = t by omega]
theorem pcells_s (C : Nat) (x : Nat -> Pr) (t i : Nat) (hi : i = t * 2 + 1) (ht : t < C) : (pcells C x)[i]? = some ((x t).s) := by
 subst hi
 unfold pcells
 rw [fcells_at _ _ _ (by omega)]
 unfold pcell
 rw [if_neg (by omega), show (t * 2 + 1) / 2 = t by omega]
theorem pcells_sw (C : Nat) (x : Nat -> Pr) (i j : Nat) (hij : i ≠ j) :
 ((((pcells C x).setIfInBounds (i * 2) (.int .i64 (x j).k)).setIfInBounds (i * 2 + 1) ((x j).s)).setIfInBounds (j * 2) (.int .i64 (x i).k)).setIfInBounds (j * 2 + 1) ((x i).s) = pcells C (sw x i j) := by
 unfold pcells
 rw [fcells_set, fcells_set, fcells_set, fcells_set]
 refine fcells_congr _ _ _ fun p _ => ?_
 unfold pcell sw
 by_cases h0 : p % 2 = 0
 . rw [if_neg (by omega)]
   by_cases h1 : p / 2 = j
   . rw [if_pos (by omega), if_pos h0, if_neg (by omega), if_pos h1]
   . rw [if_neg (by omega), if_neg (by omega), if_pos h0]
     by_cases h2 : p / 2 = i
     . rw [if_pos (by omega), if_pos h2]; first | rw [if_pos h0] | rw [if_neg h0]
     . rw [if_neg (by omega), if_neg h2, if_neg h1, if_pos h0]
 . by_cases h1 : p / 2 = j
   . rw [if_pos (by omega), if_neg h0, if_neg (by omega), if_pos h1]
   . rw [if_neg (by omega), if_neg (by omega), if_neg h0]
     by_cases h2 : p / 2 = i
     . rw [if_pos (by omega), if_pos h2]; first | rw [if_pos h0] | rw [if_neg h0]
     . rw [if_neg (by omega), if_neg (by omega), if_neg h2, if_neg h1, if_neg h0]
def PB (w : World) (g C : Nat) (x : Nat -> Pr) : Prop := ∃ R : Array Value, Blk w g 172 (pcells C x ++ R)
theorem pcells_size (C : Nat) (x : Nat -> Pr) : (pcells C x).size = 2 * C := fcells_size _ _
theorem papp_at (C : Nat) (x : Nat -> Pr) (R : Array Value) (i : Nat) (hi : i < 2 * C) : (pcells C x ++ R)[i]? = (pcells C x)[i]? := by
 rw [Array.getElem?_append_left (by rw [pcells_size]; exact hi)]
theorem papp_set2 (C : Nat) (A : Array Value) (hA : A.size = 2 * C) (R : Array Value) (i : Nat) (v : Value) (hi : i < 2 * C) : (A ++ R).setIfInBounds i v = A.setIfInBounds i v ++ R :=
 Array.setIfInBounds_append_left (by omega)
theorem papp_set (C : Nat) (x : Nat -> Pr) (R : Array Value) (i : Nat) (v : Value) (hi : i < 2 * C) : (pcells C x ++ R).setIfInBounds i v = (pcells C x).setIfInBounds i v ++ R := papp_set2 C _ (pcells_size C x) R i v hi
def KB (x : Nat -> Pr) (C : Nat) : Prop := ∀ i, i < C -> -1000000000000000 <= (x i).k /\ (x i).k <= 1000000000000000
section
variable {w w' : World} {g C : Nat} {x : Nat -> Pr}
theorem PB.k (h : PB w g C x) (i : Nat) (hi : i < C) : w.cell? ⟨g, i * 2, none⟩ = some (.int .i64 (x i).k) := by
 obtain ⟨R, h⟩ := h
 exact (Blk.cell h (i * 2)).trans ((papp_at C x R _ (by omega)).trans (pcells_k C x i _ rfl hi))
theorem PB.s (h : PB w g C x) (i : Nat) (hi : i < C) : w.cell? ⟨g, i * 2 + 1, none⟩ = some (x i).s := by
 obtain ⟨R, h⟩ := h
 exact (Blk.cell h (i * 2 + 1)).trans ((papp_at C x R _ (by omega)).trans (pcells_s C x i _ rfl hi))
theorem PB.lt (h : PB w g C x) : g < w.heap.size := by obtain ⟨R, h⟩ := h; exact Blk.lt h
theorem PB.frozen (h : PB w g C x) (i : Nat) : w.frozen? ⟨g, i, none⟩ = false := by obtain ⟨R, h⟩ := h; exact Blk.frozen h i
theorem PB.sw (h : PB w g C x) (i j : Nat) (hij : i ≠ j) (hi : i < C) (hj : j < C) : PB ((((w.setCell ⟨g, i * 2, none⟩ (.int .i64 (x j).k)).setCell ⟨g, i * 2 + 1, none⟩ (x j).s).setCell ⟨g, j * 2, none⟩ (.int .i64 (x i).k)).setCell ⟨g, j * 2 + 1, none⟩ (x i).s) g C (Go.Proofs.Ytjnglahjngiofaa.sw x i j) := by
 obtain ⟨R, h⟩ := h
 refine ⟨R, ?_⟩
 have h4 := (((Blk.set_ h (i * 2) (.int .i64 (x j).k)).set_ (i * 2 + 1) (x j).s).set_ (j * 2) (.int .i64 (x i).k)).set_ (j * 2 + 1) (x i).s
 rw [papp_set C x R _ _ (by omega), papp_set2 C _ (by rw [Array.size_setIfInBounds, pcells_size]) R _ _ (by omega), papp_set2 C _ (by rw [Array.size_setIfInBounds, Array.size_setIfInBounds, pcells_size]) R _ _ (by omega), papp_set2 C _ (by rw [Array.size_setIfInBounds, Array.size_setIfInBounds, Array.size_setIfInBounds, pcells_size]) R _ _ (by omega), pcells_sw C x i j hij] at h4
 exact h4
theorem PB.grown {r : Option Nat} (h : PB w g C x) (hg : w.grownBy w' r) (hr : some g ≠ r) : PB w' g C x := by obtain ⟨R, h⟩ := h; exact ⟨R, Blk.grown h hg hr⟩
theorem PB.below {B : Nat} (h : PB w g C x) (hb : Below B w w') (hB : g < B) : PB w' g C x := by obtain ⟨R, h⟩ := h; exact ⟨R, Blk.below h hb hB⟩
end
def Ch1 (w w' : World) (g : Nat) : Prop := w.grownBy w' (some g)
theorem Ch1.refl (w : World) (g : Nat) : Ch1 w w g := ⟨rfl, rfl, rfl, Qa _, fun _ _ _ => rfl⟩
theorem Ch1.trans {w w1 w2 : World} {g : Nat} (h : Ch1 w w1 g) (k : Ch1 w1 w2 g) : Ch1 w w2 g :=
 ⟨k.os.trans h.os, k.tape.trans h.tape, k.output.trans h.output, Qe h.size k.size, fun b hb hr => (k.block b (Qb hb h.size) hr).trans (h.block b hb hr)⟩
theorem Ch1.below {w w1 w2 : World} {g : Nat} (h : Ch1 w w1 g) (k : Below w1.heap.size w1 w2) : Ch1 w w2 g :=
 ⟨k.os.trans h.os, k.tape.trans h.tape, k.output.trans h.output, Qe h.size k.size, fun b hb hr => (k.block b (Qb hb h.size)).trans (h.block b hb hr)⟩
theorem Ch1.set {w w1 : World} {g : Nat} (h : Ch1 w w1 g) (i : Nat) (u : Value) : Ch1 w (w1.setCell ⟨g, i, none⟩ u) g :=
 ⟨h.os, h.tape, h.output, by simpa [World.setCell] using h.size, fun b hb hr => (Below.heap_setCell w1 ⟨g, i, none⟩ u b (fun e => hr (congrArg some e))).trans (h.block b hb hr)⟩
theorem Ch1.drewN {w w1 : World} {g : Nat} (h : Ch1 w w1 g) (n : Nat) : Ch1 w (w1.drewN n) g := ⟨h.os, h.tape, h.output, h.size, h.block⟩
theorem Ch1.drew {w w1 : World} {g : Nat} (h : Ch1 w w1 g) : Ch1 w w1.drew g := ⟨h.os, h.tape, h.output, h.size, h.block⟩
theorem weigh_any (k1 k2 : Int) (v1 v2 : Value) (h1 : -1000000000000000 <= k1 /\ k1 <= 1000000000000000) (h2 : -1000000000000000 <= k2 /\ k2 <= 1000000000000000) (w : World) :
 Calls Try.prog 96 #[.agg #[.int .i64 k1, v1], .agg #[.int .i64 k2, v2]] w fun e w' => e = .returned (.int .i64 (k1 - k2)) /\ Below w.heap.size w w' := by
 have B1 := Blk.new w 172 #[.int .i64 k1, v1]
 have B2 := Blk.new (w.alloc (.cells #[.int .i64 k1, v1] 172)) 172 #[.int .i64 k2, v2]
 have c1 := (B1.alloc (.cells #[.int .i64 k2, v2] 172)).cell 0
 have c2 := B2.cell 0
 have hb := ((Below.refl w.heap.size w).alloc (Qa _) (.cells #[.int .i64 k1, v1] 172)).alloc (by simp) (.cells #[.int .i64 k2, v2] 172)
 simp at c1 c2
 have Hb := Qf hb
 clear hb B1 B2
 go_enter Try.func96, Try.ntmps96
 go_wp2_with fail
 go_ret
 exact ⟨by congr 3, Hb.out⟩
set_option maxHeartbeats 16000000 in
theorem swaps_any (fv : Value) (g C N cap a b n : Nat) (hab : a + n <= b) (hb : b + n <= N) (hN : N <= C) (hC : C <= 1000000) (x : Nat -> Pr) (w : World) (hx : PB w g C x) :
 Calls Try.prog 102 #[.slice (some ⟨g, 0, none⟩) N cap, .int .i64 (a : Int), .int .i64 (b : Int), .int .i64 (n : Int), fv] w fun e w' => e = .returned (.tuple #[]) /\ Ch1 w w' g /\ PB w' g C (swN x a b n) := by
 have HX0 : Hid (PB w g C (swN x a b 0)) := by show PB _ _ _ _; rw [swN_zero]; exact hx
 have HG0 := Qf (Ch1.refl w g)
 clear hx
 go_enter Try.func102, Try.ntmps102
 go_wp2_with fail
 go_loopw [10] (fun i_ wr => ∃ i : Nat, i <= n /\ i_ = .int .i64 (i : Int) /\ Hid (PB wr g C (swN x a b i)) /\ Hid (Ch1 w wr g)) (fun i _ => n - (intOf i).toNat)
 case atStart => exact ⟨0, by omega, by first | rfl | go_num, HX0, HG0⟩
 case round =>
  clear HX0 HG0
  obtain ⟨i, hi, rfl, HX, HG⟩ := hrel
  by_cases hlt : i < n
  . have d1 : decide ((i : Int) < (n : Int)) = true := Qg (by omega)
    obtain ⟨p, Hp⟩ := Qi (a + i)
    obtain ⟨q, Hq⟩ := Qi (b + i)
    have hpv := Hp.out
    have hqv := Hq.out
    have w1 : IntKind.i64.wrap ((a : Int) + (i : Int)) = (p : Int) := by rw [IntKind.wrap_i64]; omega
    have w2 : IntKind.i64.wrap ((b : Int) + (i : Int)) = (q : Int) := by rw [IntKind.wrap_i64]; omega
    have hpN : (p : Int) < (N : Int) := by omega
    have hqN : (q : Int) < (N : Int) := by omega
    have hc1 := HX.out.k p (by omega)
    have hs1 := HX.out.s p (by omega)
    have hc2 := HX.out.k q (by omega)
    have hs2 := HX.out.s q (by omega)
    have hf1 := PB.frozen HX.out (p * 2)
    have hf2 := PB.frozen HX.out (p * 2 + 1)
    have hf3 := PB.frozen HX.out (q * 2)
    have hf4 := PB.frozen HX.out (q * 2 + 1)
    have ne1 : ¬ (q * 2 = p * 2) := by omega
    have ne2 : ¬ (q * 2 = p * 2 + 1) := by omega
    have ne3 : ¬ (q * 2 + 1 = p * 2) := by omega
    have ne4 : ¬ (q * 2 + 1 = p * 2 + 1) := by omega
    have ne5 : ¬ (p * 2 = q * 2) := by omega
    have ne6 : ¬ (p * 2 = q * 2 + 1) := by omega
    have ne7 : ¬ (p * 2 + 1 = q * 2) := by omega
    have ne8 : ¬ (p * 2 + 1 = q * 2 + 1) := by omega
    have hS := HX.out.sw p q (by omega) (by omega) (by omega)
    rw [<- hpv, <- hqv, swN_succ x a b i (by omega), hpv, hqv] at hS
    obtain ⟨X, HXp⟩ := Qi (swN x a b i p)
    obtain ⟨Y, HYq⟩ := Qi (swN x a b i q)
    rw [HXp.out] at hc1 hs1 hS
    rw [HYq.out] at hc2 hs2 hS
    obtain ⟨k1, a1, n1, c1⟩ := X
    obtain ⟨k2, a2, n2, c2⟩ := Y
    unfold Pr.s at hs1 hs2 hS
    dsimp only at hc1 hs1 hc2 hs2 hS
    have HPS : Hid (∀ m, PB (((((wr.setCell ⟨g, p * 2, none⟩ (.int .i64 k2)).setCell ⟨g, p * 2 + 1, none⟩ (.slice a2 n2 c2)).setCell ⟨g, q * 2, none⟩ (.int .i64 k1)).setCell ⟨g, q * 2 + 1, none⟩ (.slice a1 n1 c1)).drewN m) g C (swN x a b (i + 1))) := fun m => hS
    have HGS : Hid (∀ m, Ch1 w (((((wr.setCell ⟨g, p * 2, none⟩ (.int .i64 k2)).setCell ⟨g, p * 2 + 1, none⟩ (.slice a2 n2 c2)).setCell ⟨g, q * 2, none⟩ (.int .i64 k1)).setCell ⟨g, q * 2 + 1, none⟩ (.slice a1 n1 c1)).drewN m) g) := fun m =>
     ((((HG.out.set _ _).set _ _).set _ _).set _ _).drewN m
    clear hS HX HG hpv hqv HXp HYq
    go_wp2_with fail
    go_region
    all_goals
     go_wp2_with fail
     go_roundw
     case rel => exact ⟨i + 1, by omega, by go_num, HPS.out 1, HGS.out 1⟩
     case measure => simp [intOf]; omega
  . obtain rfl : i = n := by omega
    have d1 : decide ((i : Int) < (i : Int)) = false := Qh (by omega)
    go_wp2_with fail
    (try simp only [Exit.inBlock, Exit.then]); refine bodyPost_end (results_none rfl _ _ _) rfl ?_
    exact ⟨rfl, HG.out, HX.out⟩
set_option maxHeartbeats 16000000 in
theorem rotate_any (fv : Value) (g C N cap a m b : Nat) (ha : a < m) (hm : m < b) (hb : b <= N) (hN : N <= C) (hC : C <= 1000000) (x : Nat -> Pr) (w : World) (hx : PB w g C x) :
 Calls Try.prog 101 #[.slice (some ⟨g, 0, none⟩) N cap, .int .i64 (a : Int), .int .i64 (m : Int), .int .i64 (b : Int), fv] w fun e w' => e = .returned (.tuple #[]) /\ Ch1 w w' g /\ PB w' g C (rot x a m b) := by
 obtain ⟨i0, hi0⟩ : ∃ i, i = m - a := ⟨_, rfl⟩
 obtain ⟨j0, hj0⟩ : ∃ i, i = b - m := ⟨_, rfl⟩
 have w1 : IntKind.i64.wrap ((m : Int) - (a : Int)) = (i0 : Int) := by rw [IntKind.wrap_i64]; omega
 have w2 : IntKind.i64.wrap ((b : Int) - (m : Int)) = (j0 : Int) := by rw [IntKind.wrap_i64]; omega
 obtain ⟨y0, HX0⟩ : ∃ y, Hid (PB w g C y /\ rot y (m - i0) m (m + j0) = rot x a m b) := ⟨x, hx, by rw [show m - i0 = a by omega, show m + j0 = b by omega]⟩
 have HG0 := Qf (Ch1.refl w g)
 have hi1 : 1 <= i0 := by omega
 have hj1 : 1 <= j0 := by omega
 have him : i0 <= m := by omega
 have hmj : m + j0 <= N := by omega
 clear hx hi0 hj0
 go_enter Try.func101, Try.ntmps101
 go_wp2_with fail
 go_loopw [10, 11] (fun i_ j_ wr => ∃ (i j : Nat) (y : Nat -> Pr), 1 <= i /\ 1 <= j /\ i <= m /\ m + j <= N /\ i_ = .int .i64 (i : Int) /\ j_ = .int .i64 (j : Int) /\ Hid (PB wr g C y /\ rot y (m - i) m (m + j) = rot x a m b) /\ Hid (Ch1 w wr g)) (fun i j _ => (intOf i).toNat + (intOf j).toNat)
 case atStart => exact ⟨i0, j0, y0, hi1, hj1, him, hmj, by first | rfl | go_num, by first | rfl | go_num, HX0, HG0⟩
 case round =>
  clear HX0 HG0 hi1 hj1 him hmj w1 w2
  obtain ⟨i, j, y, hi1, hj1, him, hmj, rfl, rfl, HX, HG⟩ := hrel
  obtain ⟨p, Hp⟩ := Qi (m - i)
  have hpv := Hp.out
  have w1 : IntKind.i64.wrap ((m : Int) - (i : Int)) = (p : Int) := by rw [IntKind.wrap_i64]; omega
  by_cases hne : i = j
  . subst hne
    have d1 : ((i : Int) != (i : Int)) = false := by simp
    have CS := Qf (swaps_any fv g C N cap p m i (by omega) (by omega) hN hC y wr HX.out.1)
    have HE : Hid (swN y p m i = rot x a m b) := by show _ = _; rw [<- hpv, rot_even y m i him, HX.out.2]
    rw [HE.out] at CS
    clear hpv HX
    go_wp2_with fail
    refine CS.out.mono ?_
    rintro e w2 ⟨rfl, h1, h2⟩
    have H1 := Qf (HG.out.trans h1)
    have H2 := Qf h2
    clear h1 h2
    go_wp2_with fail
    (try simp only [Exit.inBlock, Exit.then]); refine bodyPost_end (results_none rfl _ _ _) rfl ?_
    exact ⟨rfl, H1.out, H2.out⟩
  . have d1 : ((i : Int) != (j : Int)) = true := by simp; omega
    by_cases hgt : j < i
    . have d2 : decide ((j : Int) < (i : Int)) = true := Qg (by omega)
      have d3 : decide (j < i) = true := Qg (by omega)
      obtain ⟨q, Hq⟩ := Qi (i - j)
      have hqv := Hq.out
      have w2 : IntKind.i64.wrap ((i : Int) - (j : Int)) = (q : Int) := by rw [IntKind.wrap_i64]; omega
      have CS := Qf (swaps_any fv g C N cap p m j (by omega) (by omega) hN hC y wr HX.out.1)
      have HE : Hid (rot (swN y p m j) (m - q) m (m + j) = rot x a m b) := by show _ = _; rw [<- hpv, <- hqv, rot_left y m i j him hgt, HX.out.2]
      have hq1 : 1 <= q := by omega
      have hqm : q <= m := by omega
      have hqi : q < i := by omega
      clear hpv hqv HX
      go_wp2_with fail
      refine CS.out.mono ?_
      rintro e w2 ⟨rfl, h1, h2⟩
      have H1 := Qf (HG.out.trans h1)
      have H2 := Qf h2
      clear h1 h2
      go_wp2_with fail
      go_roundw
      case rel => exact ⟨q, j, _, hq1, hj1, hqm, hmj, by first | rfl | go_num, rfl, Qf ⟨H2.out, HE.out⟩, H1⟩
      case measure => simp [intOf]; omega
    . have d2 : decide ((j : Int) < (i : Int)) = false := Qh (by omega)
      have d3 : decide (j < i) = false := Qh (by omega)
      obtain ⟨q, Hq⟩ := Qi (j - i)
      have hqv := Hq.out
      have w2 : IntKind.i64.wrap ((j : Int) - (i : Int)) = (q : Int) := by rw [IntKind.wrap_i64]; omega
      obtain ⟨s, Hs⟩ := Qi (m + j)
      have hsv := Hs.out
      have w3 : IntKind.i64.wrap ((m : Int) + (j : Int)) = (s : Int) := by rw [IntKind.wrap_i64]; omega
      obtain ⟨u, Hu⟩ := Qi (s - i)
      have huv := Hu.out
      have w4 : IntKind.i64.wrap ((s : Int) - (i : Int)) = (u : Int) := by rw [IntKind.wrap_i64]; omega
      have CS := Qf (swaps_any fv g C N cap p u i (by omega) (by omega) hN hC y wr HX.out.1)
      have HE : Hid (rot (swN y p u i) (m - i) m (m + q) = rot x a m b) := by show _ = _; rw [<- hpv, <- hqv, <- huv, <- hsv, rot_right y m i j him (by omega), HX.out.2]
      have hq1 : 1 <= q := by omega
      have hqm : m + q <= N := by omega
      have hqi : q < j := by omega
      clear hpv hqv HX hsv huv
      go_wp2_with fail
      refine CS.out.mono ?_
      rintro e w2 ⟨rfl, h1, h2⟩
      have H1 := Qf (HG.out.trans h1)
      have H2 := Qf h2
      clear h1 h2
      go_wp2_with fail
      go_roundw
      case rel => exact ⟨i, q, _, hi1, hq1, him, hqm, rfl, by first | rfl | go_num, Qf ⟨H2.out, HE.out⟩, H1⟩
      case measure => simp [intOf]; omega
structure It where
 k : Int
 l : List Nat
def ik (x : It) : Int := x.k
def pairs : List It -> List It
 | a :: b :: r => ⟨a.k + b.k, a.l ++ b.l⟩ :: pairs r
 | _ => []
theorem pairs_len : ∀ (n : Nat) (R : List It), R.length <= n -> (pairs R).length = R.length / 2 := by
 intro n
 induction n using Nat.strongRecOn with
 | ind n ih =>
  intro R h
  cases R with
  | nil => rfl
  | cons a R =>
   cases R with
   | nil => exact (show 0 = 1 / 2 by decide)
   | cons b R =>
    simp only [List.length_cons] at h
    show (pairs R).length + 1 = (R.length + 1 + 1) / 2
    rw [ih R.length (by omega) R (Qa _)]
    omega
theorem pairs_take : ∀ (q : Nat) (R : List It), (pairs R).take q = pairs (R.take (2 * q)) := by
 intro q
 induction q with
 | zero => intro R; rw [List.take_zero, Nat.mul_zero, List.take_zero]; rfl
 | succ q ih =>
  intro R
  cases R with
  | nil => rw [List.take_nil]; rfl
  | cons a R =>
   cases R with
   | nil => rw [show 2 * (q + 1) = 2 * q + 1 + 1 by omega, List.take_succ_cons, List.take_nil]; rfl
   | cons b R =>
    rw [show 2 * (q + 1) = 2 * q + 1 + 1 by omega, List.take_succ_cons, List.take_succ_cons]
    show _ = _ :: pairs (R.take (2 * q))
    rw [<- ih R]
    rfl
theorem pairs_get : ∀ (q : Nat) (R : List It) (h : 2 * q + 1 < R.length), (pairs R)[q]? = some ⟨R[2 * q].k + R[2 * q + 1].k, R[2 * q].l ++ R[2 * q + 1].l⟩ := by
 intro q
 induction q with
 | zero =>
  intro R h
  match R, h with
  | a :: b :: R, _ => rfl
 | succ q ih =>
  intro R h
  match R, h with
  | a :: b :: R, h =>
   simp only [List.length_cons] at h
   have e := ih R (by omega)
   show (pairs R)[q]? = _
   rw [e]
   rfl
theorem perm_sum {a b : List Int} (h : List.Perm a b) : a.sum = b.sum := by
 induction h with
 | nil => rfl
 | cons x _ ih => simp only [List.sum_cons, ih]
 | swap x y l => simp only [List.sum_cons]; omega
 | trans _ _ ih1 ih2 => exact ih1.trans ih2
def syms (R : List It) : List Nat := R.flatMap It.l
def wsum (R : List It) : Int := (R.map It.k).sum
theorem pairs_syms : ∀ (q : Nat) (R : List It), R.length = 2 * q -> syms (pairs R) = syms R /\ wsum (pairs R) = wsum R := by
 intro q
 induction q with
 | zero =>
  intro R h
  have : R = [] := List.eq_nil_of_length_eq_zero (by omega)
  subst this
  exact ⟨rfl, rfl⟩
 | succ q ih =>
  intro R h
  match R, h with
  | a :: b :: R, h =>
   simp only [List.length_cons] at h
   obtain ⟨h1, h2⟩ := ih R (by omega)
   refine ⟨?_, ?_⟩
   . show (a.l ++ b.l) ++ syms (pairs R) = a.l ++ (b.l ++ syms R)
     rw [h1, List.append_assoc]
   . show (a.k + b.k) + wsum (pairs R) = a.k + (b.k + wsum R)
     rw [h2, Int.add_assoc]
theorem pairs_srt : ∀ (n : Nat) (R : List It), R.length <= n -> Srt ik R -> Srt ik (pairs R) /\ ∀ a b r, R = a :: b :: r -> ∀ x ∈ pairs r, a.k + b.k <= x.k := by
 intro n
 induction n using Nat.strongRecOn with
 | ind n ih =>
  intro R h hs
  match R, h, hs with
  | [], _, _ => exact ⟨List.Pairwise.nil, fun a b r e => by cases e⟩
  | [a], _, _ => exact ⟨List.Pairwise.nil, fun a b r e => by cases e⟩
  | a :: b :: R, h, hs =>
   simp only [List.length_cons] at h
   obtain ⟨ha, hs2⟩ := List.pairwise_cons.1 hs
   obtain ⟨hb, hs3⟩ := List.pairwise_cons.1 hs2
   obtain ⟨h1, h2⟩ := ih R.length (by omega) R (Qa _) hs3
   have key : ∀ x ∈ pairs R, a.k + b.k <= x.k := by
    intro x hx
    match R, hx, ha, hb, h2, h1 with
    | c :: d :: R, hx, ha, hb, h2, h1 =>
     have h3 : b.k <= c.k := hb c (List.mem_cons_self ..)
     have h4 : a.k <= d.k := ha d (by simp)
     rcases List.mem_cons.1 hx with rfl | hx
     . show a.k + b.k <= c.k + d.k; omega
     . have := h2 c d R rfl x hx; omega
   refine ⟨List.pairwise_cons.2 ⟨fun x hx => key x hx, h1⟩, fun a' b' r e => ?_⟩
   injection e with e1 e
   injection e with e2 e3
   subst e1 e2 e3
   exact key
theorem mrg_take : ∀ (p : Nat) (A B : List It), Srt ik A -> p <= A.length + B.length -> ∃ c q, c + q = p /\ c <= A.length /\ q <= B.length /\ List.Perm ((mrg ik A B).take p) (A.take c ++ B.take q) /\
 (∀ x ∈ B.take q, ∀ y ∈ A.drop c, x.k < y.k) := by
 intro p
 induction p with
 | zero => intro A B _ _; exact ⟨0, 0, rfl, Nat.zero_le _, Nat.zero_le _, by simp, fun x hx => by simp at hx⟩
 | succ p ih =>
  intro A B hs h
  match A, B, hs, h with
  | [], B, hs, h =>
   refine ⟨0, p + 1, by omega, Nat.zero_le _, by simpa using h, ?_, fun _ _ y hy => by simp at hy⟩
   rw [mrg_nil, List.take_nil, List.nil_append]
  | a :: A, [], hs, h =>
   refine ⟨p + 1, 0, by omega, by simpa using h, Nat.zero_le _, ?_, fun x hx => by simp at hx⟩
   rw [mrg_nil', List.take_zero, List.append_nil]
  | a :: A, b :: B, hs, h =>
   simp only [List.length_cons] at h
   have hs' := List.pairwise_cons.1 hs
   rw [mrg_cons]
   by_cases hlt : ik b < ik a
   . rw [if_pos hlt, List.take_succ_cons]
     obtain ⟨c, q, h1, h2, h3, h4, h5⟩ := ih (a :: A) B hs (by simp only [List.length_cons]; omega)
     refine ⟨c, q + 1, by omega, h2, by simp only [List.length_cons]; omega, ?_, fun x hx y hy => ?_⟩
     . rw [List.take_succ_cons]
       exact (h4.cons b).trans List.perm_middle.symm
     . rw [List.take_succ_cons] at hx
       rcases List.mem_cons.1 hx with rfl | hx
       . have hy2 := List.mem_of_mem_drop hy
         have hxa : x.k < a.k := hlt
         rcases List.mem_cons.1 hy2 with rfl | hy2
         . exact hxa
         . have : a.k <= y.k := hs'.1 y hy2
           omega
       . exact h5 x hx y hy
   . rw [if_neg hlt, List.take_succ_cons]
     obtain ⟨c, q, h1, h2, h3, h4, h5⟩ := ih A (b :: B) hs'.2 (by simp only [List.length_cons]; omega)
     refine ⟨c + 1, q, by omega, by simp only [List.length_cons]; omega, h3, ?_, fun x hx y hy => ?_⟩
     . rw [List.take_succ_cons]
       exact h4.cons a
     . rw [List.drop_succ_cons] at hy
       exact h5 x hx y hy
def rowN (A : List It) : Nat -> List It
 | 0 => []
 | k + 1 => mrg ik A (pairs (rowN A k))
theorem rowN_srt (A : List It) (hA : Srt ik A) : ∀ k, Srt ik (rowN A k) := by
 intro k
 induction k with
 | zero => exact List.Pairwise.nil
 | succ k ih => exact mrg_srt ik _ _ _ (Qa _) hA (pairs_srt _ _ (Qa _) ih).1
theorem rowN_pos (A : List It) (hA : ∀ x ∈ A, 0 < x.k) : ∀ k, ∀ x ∈ rowN A k, 0 < x.k := by
 have key : ∀ (n : Nat) (R : List It), R.length <= n -> (∀ x ∈ R, 0 < x.k) -> ∀ x ∈ pairs R, 0 < x.k := by
  intro n
  induction n using Nat.strongRecOn with
  | ind n ih =>
   intro R h hR x hx
   match R, h, hR, hx with
   | a :: b :: R, h, hR, hx =>
    simp only [List.length_cons] at h
    rcases List.mem_cons.1 hx with rfl | hx
    . have h1 := hR a (List.mem_cons_self ..)
      have h2 := hR b (by simp)
      show 0 < a.k + b.k
      omega
    . exact ih R.length (by omega) R (Qa _) (fun y hy => hR y (by simp [hy])) x hx
 intro k
 induction k with
 | zero => intro x hx; cases hx
 | succ k ih =>
  intro x hx
  rcases (mem_mrg ik _ _ x).1 hx with h | h
  . exact hA x h
  . exact key _ _ (Qa _) ih x h
theorem rowN_len (A : List It) (k : Nat) : (rowN A (k + 1)).length = A.length + (rowN A k).length / 2 := by
 show (mrg ik A (pairs (rowN A k))).length = _
 rw [mrg_len, pairs_len _ _ (Qa _)]
theorem rowN_enough (A : List It) (hA : 1 <= A.length) : ∀ k, (2 * A.length - 1 - (rowN A (k + 1)).length) = (A.length - 1) / 2 ^ k /\ (rowN A (k + 1)).length <= 2 * A.length - 1 := by
 intro k
 induction k with
 | zero =>
  rw [rowN_len]
  show 2 * A.length - 1 - (A.length + 0 / 2) = (A.length - 1) / 1 /\ _
  rw [Nat.div_one]
  exact ⟨by omega, by show A.length + 0 / 2 <= _; omega⟩
 | succ k ih =>
  obtain ⟨h1, h2⟩ := ih
  rw [rowN_len, Nat.pow_succ, <- Nat.div_div_eq_div_mul, <- h1]
  omega
def valC : List Nat -> Nat
 | [] => 0
 | c :: r => c * 2 ^ r.length + valC r
theorem levels (A : List It) (hA : Srt ik A) (hp : ∀ x ∈ A, 0 < x.k) : ∀ k p, p <= (rowN A k).length -> ∃ cs : List Nat, cs.length = k /\ cs.Pairwise (fun a b => b <= a) /\ (∀ c ∈ cs, c <= A.length) /\ 2 * valC cs = p * 2 ^ k /\
 List.Perm (syms ((rowN A k).take p)) (cs.flatMap fun c => syms (A.take c)) /\ wsum ((rowN A k).take p) = (cs.map fun c => wsum (A.take c)).sum /\ (∀ c r, cs = c :: r -> ∀ x ∈ A.take c, x ∈ (rowN A k).take p) := by
 intro k
 induction k with
 | zero =>
  intro p h
  have hp0 : p = 0 := by simpa [rowN] using h
  subst hp0
  exact ⟨[], rfl, List.Pairwise.nil, fun c hc => (by cases hc), (by show 2 * 0 = 0 * 2 ^ 0; omega), List.Perm.refl _, rfl, fun c r e => (by cases e)⟩
 | succ k ih =>
  intro p h
  have hl : p <= A.length + (pairs (rowN A k)).length := by rw [<- mrg_len ik]; exact h
  obtain ⟨c, q, h1, h2, h3, h4, h5⟩ := mrg_take p A (pairs (rowN A k)) hA hl
  have hq : 2 * q <= (rowN A k).length := by rw [pairs_len _ _ (Qa _)] at h3; omega
  obtain ⟨cs, k1, k2, k3, k4, k5, k6, k7⟩ := ih (2 * q) hq
  have htl : ((rowN A k).take (2 * q)).length = 2 * q := by rw [List.length_take]; omega
  obtain ⟨s1, s2⟩ := pairs_syms q ((rowN A k).take (2 * q)) htl
  rw [<- pairs_take] at s1 s2
  have hsy : List.Perm (syms ((mrg ik A (pairs (rowN A k))).take p)) (syms (A.take c) ++ syms ((rowN A k).take (2 * q))) := by
   have := h4.flatMap_right It.l
   rw [List.flatMap_append] at this
   show List.Perm (syms _) _
   rw [<- s1]
   exact this
  have hws : wsum ((mrg ik A (pairs (rowN A k))).take p) = wsum (A.take c) + wsum ((rowN A k).take (2 * q)) := by
   have := perm_sum (h4.map It.k)
   rw [List.map_append, List.sum_append] at this
   rw [<- s2]
   exact this
  refine ⟨c :: cs, by rw [List.length_cons, k1], List.pairwise_cons.2 ⟨?_, k2⟩, ?_, ?_, ?_, ?_, ?_⟩
  . -- each earlier round brings no more
    have key : ∀ c' r, cs = c' :: r -> c' <= c := by
     intro c' r e
     by_cases hcc : c' <= c
     . exact hcc
     . exfalso
       have hc' := k3 c' (by rw [e]; exact List.mem_cons_self ..)
       have hclt : c < A.length := by omega
       have hmem : A[c] ∈ A.take c' := by
        refine List.mem_take_iff_getElem.2 ⟨c, by omega, rfl⟩
       have hin := k7 c' r e _ hmem
       obtain ⟨i, hi, he⟩ := List.mem_take_iff_getElem.1 hin
       have hi2 : i < 2 * q := by omega
       have hq1 : 1 <= q := by omega
       have hR := rowN_srt A hA k
       have hpos := rowN_pos A hp k
       have hb : 2 * (q - 1) + 1 < (rowN A k).length := by omega
       have hg := pairs_get (q - 1) (rowN A k) hb
       have hbm : (⟨(rowN A k)[2 * (q - 1)].k + (rowN A k)[2 * (q - 1) + 1].k, (rowN A k)[2 * (q - 1)].l ++ (rowN A k)[2 * (q - 1) + 1].l⟩ : It) ∈ (pairs (rowN A k)).take q := by
        have hlt : q - 1 < (pairs (rowN A k)).length := by omega
        rw [List.getElem?_eq_getElem hlt] at hg
        injection hg with hg
        rw [<- hg]
        exact List.mem_take_iff_getElem.2 ⟨q - 1, by omega, rfl⟩
       have hAd : A[c] ∈ A.drop c := by
        rw [List.drop_eq_getElem_cons hclt]
        exact List.mem_cons_self ..
       have h6 := h5 _ hbm _ hAd
       have h7 : (rowN A k)[i].k <= (rowN A k)[2 * (q - 1) + 1].k := by
        by_cases ei : i = 2 * (q - 1) + 1
        . simp only [ei]; exact Int.le_refl _
        . exact (List.pairwise_iff_getElem.1 hR) i (2 * (q - 1) + 1) (by omega) hb (by omega)
       have h8 := hpos _ (List.getElem_mem (l := rowN A k) (n := 2 * (q - 1)) (by omega))
       rw [he] at h7
       have h9 : (rowN A k)[2 * (q - 1)].k + (rowN A k)[2 * (q - 1) + 1].k < A[c].k := h6
       omega
    intro d hd
    cases cs with
    | nil => cases hd
    | cons c' r =>
     have hc' := key c' r rfl
     rcases List.mem_cons.1 hd with rfl | hd
     . exact hc'
     . exact Qe ((List.pairwise_cons.1 k2).1 d hd) hc'
  . intro d hd
    rcases List.mem_cons.1 hd with rfl | hd
    . exact h2
    . exact k3 d hd
  . show 2 * (c * 2 ^ cs.length + valC cs) = _
    rw [k1, Nat.mul_add, k4, Nat.pow_succ, <- h1, Nat.add_mul, Nat.mul_comm 2 q, Nat.mul_assoc q 2, Nat.mul_comm 2 (2 ^ k)]
    congr 1
    rw [Nat.mul_comm 2, Nat.mul_assoc]
  . show List.Perm (syms ((mrg ik A (pairs (rowN A k))).take p)) (syms (A.take c) ++ cs.flatMap fun c => syms (A.take c))
    exact hsy.trans (k5.append_left _)
  . show wsum ((mrg ik A (pairs (rowN A k))).take p) = wsum (A.take c) + (cs.map fun c => wsum (A.take c)).sum
    rw [hws, k6]
  . intro d r e x hx
    injection e with e1 e2
    subst e1
    exact h4.symm.subset (List.mem_append_left _ hx)
end Go.Proofs.Ytjnglahjngiofaa
