/- inflate's reader: what is left to do, behind bits and tests. Conditions: none. -/
import Derived.Test.YthehocmfpoglgaaGreatRTokJ
import Derived.Deep.AppendLies
namespace Go.Proofs.YthehocmfpoglgaaGreat
open Go.RowKit
set_option maxRecDepth 100000
def LR {β:Type} (s:ByteArray) (RES:Rs β) (p z e:Nat) (K:Sg->Rs β):Prop:=(e=0/\p<=8*s.size/\K (sg s p z)=RES)\/(e ≠ 0/\RES=.error e)
section
variable {β:Type} {s:ByteArray} {RES:Rs β} {p z e:Nat}
theorem LR.bits {k:Nat} {f:Nat->Sg->Rs β} (h:LR s RES p z e (fun σ=>Yc (Yy k σ) f)):LR s RES (p+k) z (Y5 s p k e) (f (YI s p k)):=by
 unfold Y5;rcases h with⟨rfl,h1,h2⟩|⟨h1,h2⟩
 . by_cases hk:8*s.size<p+k
   . rw[if_pos hk]
     refine .inr ⟨by unfold Yu;decide,?_⟩;rw[<-h2];dsimp only;rw[XA s p z k h1 hk];rfl
   rw[if_neg hk];refine .inl ⟨rfl,by omega,?_⟩;rw[<-h2];dsimp only;rw[Ycj s p z k (by omega)];rfl
 refine .inr ?_;split
 . rw[Ud 6 e h1];exact⟨h1,h2⟩
 exact⟨h1,h2⟩
theorem LR.stop {c:Prop} [Decidable c] {x:Nat} {K K':Sg->Rs β} (h:LR s RES p z e (fun σ=>if c then .error x else K σ)) (hc:c) (hx:x ≠ 0):LR s RES p z (Yu e x) K':=by
 rcases h with⟨rfl,h1,h2⟩|⟨h1,h2⟩
 . refine .inr ⟨by unfold Yu;rw[if_pos rfl];exact hx,?_⟩
   rw[<-h2];dsimp only;rw[if_pos hc];rfl
 exact .inr ⟨by rw[Ud x e h1];exact h1,by rw[Ud x e h1];exact h2⟩
theorem LR.pass {c:Prop} [Decidable c] {x:Nat} {K:Sg->Rs β} (h:LR s RES p z e (fun σ=>if c then .error x else K σ)) (hc:¬c):LR s RES p z e K:=by
 rcases h with⟨h0,h1,h2⟩|h
 . exact .inl ⟨h0,h1,by rw[<-h2];dsimp only;rw[if_neg hc]⟩
 exact .inr h
theorem LR.congr {K K':Sg->Rs β} (h:LR s RES p z e K) (hK:K (sg s p z)=K' (sg s p z)):LR s RES p z e K':=by
 rcases h with⟨h0,h1,h2⟩|h
 . exact .inl ⟨h0,h1,by rw[<-hK,h2]⟩
 exact .inr h
theorem LR.bad {x:Nat} {K:Sg->Rs β} (h:LR s RES p z 0 K) (hK:K (sg s p z)=.error x):RES=.error x:=by
 rcases h with⟨_,_,h2⟩|⟨h,_⟩
 . rw[<-h2,hK]
 exact absurd rfl h
theorem LR.ok {K:Sg->Rs β} (h:LR s RES p z 0 K):p<=8*s.size/\K (sg s p z)=RES:=by
 rcases h with⟨_,h1,h2⟩|⟨h,_⟩
 . exact⟨h1,h2⟩
 exact absurd rfl h
end
def VA (l:List Nat):List Value:=l.map fun (x:Nat)=>Value.int .i64 (x:Int)
theorem YbZ (l m:List Nat):VA (l++m)=VA l++VA m:=by simp[VA]
theorem Yii (l:List Nat) (i:Nat) (h:i<l.length):(VA l)[i]?=some (.int .i64 ((l.getD i 0:Nat):Int)):=by simp[VA,h]
theorem Jd (k x:Nat):VA (List.replicate k x)=List.replicate k (.int .i64 (x:Int)):=by simp[VA]
theorem Ym4 (c:Nat) (v:Int):rl c v c=List.replicate c (.int .i64 v):=by
 apply List.ext_getElem?;intro j;by_cases h:j<c
 . rw[YcI c v c j h,if_pos h,List.getElem?_replicate,if_pos h]
 rw[List.getElem?_eq_none (by rw[XK];omega),List.getElem?_eq_none (by rw[List.length_replicate];omega)]
def OwnN (w:World) (base:Nat) (v:Value) (l:List Nat):Prop:=w.ownsRow base 3 1 v l.length (VA l)
theorem OwnN.cell {w:World} {base g cap:Nat} {l:List Nat} (h:OwnN w base (.slice (some ⟨g,0,none⟩) l.length cap) l) (i:Nat) (hi:i<l.length):w.cell? ⟨g,i,none⟩=some (.int .i64 ((l.getD i 0:Nat):Int)):=by
 have:=World.ownsRow.cellAt (e:=3) (size:=1) (xs:=VA l) h i (by omega);rw[this,Yii l i hi]
theorem OwnN.form {w:World} {base:Nat} {v:Value} {l:List Nat} (h:OwnN w base v l):∃a cap,Hid (v=.slice a l.length cap):=by
 rcases h.2 with⟨rfl,h0⟩|⟨g,cap,cur,rfl,_⟩
 . exact⟨none,0,by show _=_;rw[h0]⟩
 exact⟨_,_,Qf rfl⟩
theorem OwnN.pos {w:World} {base n:Nat} {a:Option Addr} {cap:Nat} {l:List Nat} (h:OwnN w base (.slice a n cap) l) (hn:l.length=n) (h0:0<n):∃g,a=some ⟨g,0,none⟩/\base<=g/\g<w.heap.size/\n<=cap/\∀i,i<n->w.cell? ⟨g,i,none⟩=some (.int .i64 ((l.getD i 0:Nat):Int)):=by
 subst hn;have hlt:=World.ownsRow.lt h;rcases h.2 with⟨h1,h2⟩|⟨g,c,cur,h1,h2,h3,h4,_⟩
 . omega
 injection h1 with e1 e2 e3;subst e1 e3;exact⟨g,rfl,h2,(hlt g rfl).2,h4,fun i hi=>OwnN.cell h i hi⟩
theorem OwnN.rch {w w':World} {R P base:Nat} {v:Value} {l:List Nat} (h:OwnN w base v l) (hc:Rch R P w w') (h1:R<base) (h2:P<base):OwnN w' base v l:=Ku h hc h1 h2
theorem YP {w w':World} {base e size n B:Nat} {v:Value} {xs:List Value} (h:w.ownsRow base e size v n xs) (hb:Below B w w') (hB:w.heap.size<=B):w'.ownsRow base e size v n xs:=by
 have hlt:=World.ownsRow.lt h;refine⟨h.1,?_⟩;rcases h.2 with h2|⟨g,cap,cur,rfl,h3,h4,h5⟩
 . exact .inl h2
 exact .inr ⟨g,cap,cur,rfl,h3,(hb.block g (Qb (hlt g rfl).2 hB)).trans h4,h5⟩
theorem OwnN.row {w:World} {base n:Nat} {v:Value} {l:List Nat} (h:OwnN w base v l) (hl:l.length=n):w.ownsRow base 3 1 v n (VA l):=by
 subst hl;exact h
theorem Yj9 {w:World} {q k:Nat} {u:Value} (h:Blk w q 3 (List.replicate k u).toArray):∀j x,(List.replicate k u)[j]?=some x->w.cell? ((⟨q,0,none⟩:Addr).add j)=some x:=by
 intro j x hj;have e:(⟨q,0,none⟩:Addr).add j=⟨q,j,none⟩:=by unfold Addr.add;split<;>simp_all
 rw[e,h.cell j,List.getElem?_toArray];exact hj
structure LS (w:World) (R P BB:Nat) (T g N cap:Nat) (B:Nat->Nat->Int) (v:Value) (l:List Nat) (wt:World):Prop where
 own:OwnN wt BB v l
 a:TreeAt wt T g N cap B
 ch:Rch R P w wt
 sz:BB<=wt.heap.size
structure LB (w:World) (R P BB T g:Nat):Prop where
 rb:R<BB
 pb:P<BB
 wb:w.heap.size<=BB
 b:T<BB/\g<BB
 n:T ≠ R/\T ≠ P/\g ≠ R/\g ≠ P
section
variable {w wt w':World} {R P BB T g N cap:Nat} {B:Nat->Nat->Int} {v v':Value} {l l':List Nat}
theorem LS.rch (h:LS w R P BB T g N cap B v l wt) (k:LB w R P BB T g) (hc:Rch R P wt w'):LS w R P BB T g N cap B v l w':=
 ⟨h.own.rch hc k.rb k.pb,h.a.rch hc k.n.1 k.n.2.1 k.n.2.2.1 k.n.2.2.2,h.ch.trans hc,Qe h.sz hc.2.2.2.1⟩
theorem LS.below (h:LS w R P BB T g N cap B v l wt) (k:LB w R P BB T g) (hb:Below wt.heap.size wt w'):LS w R P BB T g N cap B v l w':=
 ⟨YP h.own hb (Qa _),h.a.below hb (Qb k.b.1 h.sz) (Qb k.b.2 h.sz),h.ch.then_below hb (Qe k.wb h.sz),Qe h.sz hb.size⟩
theorem LS.app (h:LS w R P BB T g N cap B v l wt) (k:LB w R P BB T g) (hb:Below BB wt w') (hO:OwnN w' BB v' l'):LS w R P BB T g N cap B v' l' w':=
 ⟨hO,h.a.below hb k.b.1 k.b.2,h.ch.then_below hb k.wb,Qe h.sz hb.size⟩
end
theorem OwnN.add {w:World} {base n k:Nat} {v:Value} {l m:List Nat} {xs:List Value} (h:w.ownsRow base 3 1 v (n+k) (VA l++xs)) (hl:l.length=n) (hm:m.length=k) (hx:xs=VA m):OwnN w base v (l++m):=by
 subst hl hm hx;unfold OwnN;rw[YbZ,List.length_append];exact h
theorem YcV:∀j,j<19->(#[.int .i64 16,.int .i64 17,.int .i64 18,.int .i64 0,.int .i64 8,.int .i64 7,.int .i64 9,.int .i64 6,.int .i64 10,.int .i64 5,.int .i64 11,.int .i64 4,.int .i64 12,.int .i64 3,.int .i64 13,.int .i64 2,.int .i64 14,.int .i64 1,.int .i64 15]:Array Value)[j]?=some (.int .i64 ((ordL.getD j 0:Nat):Int)):=by
 intro j hj
 rcases show j=0\/j=1\/j=2\/j=3\/j=4\/j=5\/j=6\/j=7\/j=8\/j=9\/j=10\/j=11\/j=12\/j=13\/j=14\/j=15\/j=16\/j=17\/j=18 by omega with rfl|rfl|rfl|rfl|rfl|rfl|rfl|rfl|rfl|rfl|rfl|rfl|rfl|rfl|rfl|rfl|rfl|rfl|rfl<;>rfl
theorem Ylj:∀j,j<19->ordL.getD j 0<19:=by decide
theorem YeS (n j:Nat) (h:j<n) (hn:n<=19):(ordL.take n).drop j=ordL.getD j 0::(ordL.take n).drop (j+1):=by
 have hl:j<(ordL.take n).length:=by rw[List.length_take];show j<min n 19;omega
 rw[List.drop_eq_getElem_cons hl]
 congr 1
 rw[List.getElem_take];have h19:j<ordL.length:=by show j<19;omega
 simp[List.getD,h19]
def KG (m:Nat->Int) (i:Nat):Value:=.int .i64 (m i)
end Go.Proofs.YthehocmfpoglgaaGreat
