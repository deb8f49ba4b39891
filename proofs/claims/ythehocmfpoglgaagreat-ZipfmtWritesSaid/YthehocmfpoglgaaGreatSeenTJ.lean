/- The document's tokens of layer 6. Printed by gen_seent.py. Conditions: texts of at most 12500 bytes. -/
import Derived.Test.YthehocmfpoglgaaGreatJikjhbb
import Derived.Test.YthehocmfpoglgaaGreatSeenSJ
import Derived.Test.YthehocmfpoglgaaGreatJlflblb
import Derived.Test.YthehocmfpoglgaaGreatRTokJ
import Derived.Deep.Cut
namespace Go.Proofs.YthehocmfpoglgaaGreat
open Go.RowKit
set_option maxRecDepth 100000
theorem LR.check {β:Type} {s:ByteArray} {RES:Rs β} {p z e x:Nat} {ok:Prop} [Decidable ok] {G:Unit->Sg->Rs β} (h:LR s RES p z e (fun σ=>Yc (VN ok x σ) G)) (hx:x ≠ 0) {D:Bool} (hD:D=true ↔ ¬ok):LR s RES p z (if D then Yu e x else e) (G ()):=by
 cases hDc:D with
 |true=>
  rw[if_pos rfl];have hn:=hD.1 hDc;unfold Yu;rcases h with⟨rfl,h1,h2⟩|⟨h1,h2⟩
  . refine .inr ⟨by rw[if_pos rfl];exact hx,?_⟩
    rw[if_pos rfl,<-h2];dsimp only;unfold VN;rw[if_neg hn];rfl
  rw[if_neg h1];exact .inr ⟨h1,h2⟩
 |false=>
  rw[if_neg (by decide)]
  have hy:ok:=Decidable.byContradiction fun hn=>by
   have:=hD.2 hn;rw[hDc] at this;cases this
  refine h.congr ?_;unfold VN;rw[if_pos hy];rfl
theorem SAt.drew {w0 wt:World} {B n cap p z most e:Nat} {a:Option Addr} (h:SAt w0 wt B a n cap p z most e):SAt w0 wt.drew B a n cap p z most e:=⟨h.1.drew,h.2.1.drew,Yh h.2.2.1 1,h.2.2.2⟩
def TLr {β:Type} (L:Nat->Nat) (c:Nat) (D:Nat->Nat) (d most:Nat) (s:ByteArray) (RES:Rs β) (f:List Tok->Sg->Rs β) (p z e:Nat) (S:List Tok):Prop:=
 (e=0/\p<=8*s.size/\∃fu,8*s.size-p<fu/\Yc (tokM L c D d most fu (sg s p z) S) f=RES)\/(e ≠ 0/\RES=.error e)
noncomputable def tK {β:Type} (L:Nat->Nat) (c:Nat) (D:Nat->Nat) (d most fu:Nat) (f:List Tok->Sg->Rs β) (S:List Tok) (t:Option Tok) (σ1:Sg):Rs β:=
 match t with
 |none=>f S σ1
 |some t=>Yc (tokM L c D d most fu σ1 (S++[t])) f
noncomputable def tF4 {β:Type} (most:Nat) (K:Option Tok->Sg->Rs β) (nb:Nat) (fb:Nat) (g:Nat) (σ4:Sg):Rs β:=
 if σ4.out<fb+g then .error 3 else Yc (VY most nb σ4) fun _ σ5=>K (some ⟨0,(nb:Int),((fb+g:Nat):Int)⟩) σ5
noncomputable def tF3 {β:Type} (most:Nat) (K:Option Tok->Sg->Rs β) (nb:Nat) (q:Nat) (σ3:Sg):Rs β:=
 if 29<q then .error 3 else Yc (Yy (Yl true (q:Int)).2 σ3) (tF4 most K nb (Yl true (q:Int)).1)
noncomputable def tF2 {β:Type} (D:Nat->Nat) (d most:Nat) (K:Option Tok->Sg->Rs β) (ns:Nat) (b:Nat) (σ2:Sg):Rs β:=Yc (symM D d σ2) (tF3 most K (ns+b))
noncomputable def tF1 {β:Type} (D:Nat->Nat) (d most:Nat) (K:Option Tok->Sg->Rs β) (s:Nat) (σ1:Sg):Rs β:=
 if s=256 then K none σ1 else if s<256 then Yc (VY most 1 σ1) (fun _ σ2=>K (some ⟨UInt8.ofNat s,0,0⟩) σ2) else if 285<s then .error 3
 else Yc (Yy (Yl false ((s:Int)-257)).2 σ1) (tF2 D d most K (Yl false ((s:Int)-257)).1)
theorem Yhr {β:Type} (L:Nat->Nat) (c:Nat) (D:Nat->Nat) (d most:Nat) (σ:Sg) (K:Option Tok->Sg->Rs β):Yc (Y1 L c D d most σ) K=Yc (symM L c σ) (tF1 D d most K):=by
 unfold Y1;rw[Yi]
 congr 1
 funext s σ1;unfold tF1;split
 . rfl
 split
 . rw[Yi];rfl
 split
 . rfl
 rw[Yi]
 congr 1
 funext b σ2;unfold tF2;rw[Yi]
 congr 1
 funext q σ3;unfold tF3;split
 . rfl
 rw[Yi]
 congr 1
 funext g σ4;unfold tF4;split
 . rfl
 rw[Yi];rfl
theorem TLr.step {β:Type} {L:Nat->Nat} {c:Nat} {D:Nat->Nat} {d most:Nat} {s:ByteArray} {RES:Rs β} {f:List Tok->Sg->Rs β} {p z:Nat} {S:List Tok} (h:TLr L c D d most s RES f p z 0 S) :
 p<=8*s.size/\∃fu,8*s.size-p<fu+1/\LR s RES p z 0 (fun σ=>Yc (symM L c σ) (tF1 D d most (tK L c D d most fu f S))):=by
 rcases h with⟨_,h1,fu,h2,h3⟩|⟨h,_⟩
 . obtain⟨fu,rfl⟩:∃g,fu=g+1:=⟨fu-1,by omega⟩
   refine⟨h1,fu,h2,.inl ⟨rfl,h1,?_⟩⟩;rw[<-h3];show Yc (symM L c (sg s p z)) _=Yc (Yc _ _) f;rw[<-Yhr];rw[Yi]
   congr 1
   funext t σ1;cases t<;>rfl
 exact absurd rfl h
theorem TLr.next {β:Type} {L:Nat->Nat} {c:Nat} {D:Nat->Nat} {d most:Nat} {s:ByteArray} {RES:Rs β} {f:List Tok->Sg->Rs β} {p p' z' e' fu:Nat} {S:List Tok} {t:Tok} (h:LR s RES p' z' e' (tK L c D d most fu f S (some t))) (hf:8*s.size-p<fu+1) (hp:e'=0->p<p') :
 TLr L c D d most s RES f p' z' e' (S++[t]):=by
 rcases h with⟨h0,h1,h2⟩|h
 . exact .inl ⟨h0,h1,fu,by have:=hp h0;omega,h2⟩
 exact .inr h
theorem LR.growE {β:Type} {s:ByteArray} {RES:Rs β} {p z e k most:Nat} {G:Unit->Sg->Rs β} (h:LR s RES p z e (fun σ=>Yc (VY most k σ) G)) {D:Bool} (hD:D=true ↔ most<z+k):LR s RES p (z+k) (if D then Yu e 2 else e) (G ()):=by
 by_cases he:e=0
 . subst he
   have h2:=h.grown;by_cases hc:most<z+k
   . rw[if_pos hc] at h2
     rw[hD.2 hc,if_pos rfl];exact h2
   rw[if_neg hc] at h2;have:¬D=true:=fun e=>hc (hD.1 e);rw[if_neg this];exact h2
 have e2:(if D=true then Yu e 2 else e)=e:=by split;(unfold Yu;rw[if_neg he]);rfl
 rw[e2];exact h.moved he
theorem Y2 {w:World} {B BB n cap p z most e:Nat} {a:Option Addr} {t:TypeId} {v:Value} {S:List Tok} (h:OwnK t w BB v S) (hB:B<BB):OwnK t (setS w B a n cap p z most e) BB v S:=by
 have hk:∀i u (W:World),OwnK t W BB v S->OwnK t (W.setCell ⟨B,i,none⟩ u) BB v S:=fun i u W hW=>by
  refine hW.grown (Kc W ⟨B,i,none⟩ u) ?_
  cases hv:v.ownBlock with
  |none=>exact .inl rfl
  |some g=>
   refine .inr fun e=>?_;injection e with e;have h1:=(World.ownsRow.lt hW g hv).1;have h2:g=B:=e;omega
 exact hk 4 _ _ (hk 3 _ _ (hk 2 _ _ (hk 1 _ _ (hk 0 _ _ h))))
structure Kp (B G0:Nat) (w6 wt:World):Prop where
 size:w6.heap.size<=wt.heap.size
 blk:∀g,g<w6.heap.size->g ≠ B->g ≠ B+1->g ≠ G0->wt.heap[g]?=w6.heap[g]?
section
variable {B G0:Nat} {w6 wt w1:World}
theorem Kp.refl (w:World):Kp B G0 w w:=⟨Qa _,fun _ _ _ _ _=>rfl⟩
theorem Kp.below (h:Kp B G0 w6 wt) (hb:Below wt.heap.size wt w1):Kp B G0 w6 w1:=⟨Qe h.size hb.size,fun g h1 h2 h3 h4=>(hb.block g (Qb h1 h.size)).trans (h.blk g h1 h2 h3 h4)⟩
theorem Kp.far (h:Kp B G0 w6 wt) {g:Nat} (hg:g=B\/g=B+1\/g=G0\/w6.heap.size<=g) (i:Nat) (u:Value):Kp B G0 w6 (wt.setCell ⟨g,i,none⟩ u):=
 ⟨by simpa [World.setCell] using h.size,fun k h1 h2 h3 h4=>(Below.heap_setCell wt ⟨g,i,none⟩ u k (fun e=>by have e2:k=g:=e;omega)).trans (h.blk k h1 h2 h3 h4)⟩
theorem Kp.setS (h:Kp B G0 w6 wt) (g:Nat) (hg:g=B\/g=B+1) (a:Option Addr) (n cap p z most e:Nat):Kp B G0 w6 (setS wt g a n cap p z most e):=
 have hg':g=B\/g=B+1\/g=G0\/w6.heap.size<=g:=by omega
 ((((h.far hg' 0 _).far hg' 1 _).far hg' 2 _).far hg' 3 _).far hg' 4 _
theorem Kp.grown (h:Kp B G0 w6 wt) {row:Option Nat} (hg:wt.grownBy w1 row) (hr:∀g,row=some g->g=G0\/w6.heap.size<=g):Kp B G0 w6 w1:=
 ⟨Qe h.size hg.size,fun k h1 h2 h3 h4=>(hg.block k (Qb h1 h.size) (fun e=>by have:=hr k e.symm;omega)).trans (h.blk k h1 h2 h3 h4)⟩
theorem Kp.irow (h:Kp B G0 w6 wt) {b n:Nat} {m:Nat->Int} (hr:IRow w6 (some ⟨b,0,none⟩) n m) (h1:b ≠ B) (h2:b ≠ B+1) (h3:b ≠ G0):IRow wt (some ⟨b,0,none⟩) n m:=by
 rcases hr with hr|⟨b',off,e,k2,k3⟩
 . exact .inl hr
 injection e with e;injection e with e1 e2;subst e1 e2;exact .inr ⟨b,0,rfl,Qb k2 h.size,fun i hi=>(World.cell?_of_block (a:=⟨b,0+i,none⟩) (h.blk b k2 h1 h2 h3)).trans (k3 i hi)⟩
theorem Kp.urow (h:Kp B G0 w6 wt) {a:Option Addr} {n:Nat} {F:Nat->Nat} (hr:URow w6 a n F) (hn:∀b off sp,a=some ⟨b,off,sp⟩->b ≠ B/\b ≠ B+1/\b ≠ G0):URow wt a n F:=by
 rcases hr with hr|⟨b,off,rfl,k2,k3⟩
 . exact .inl hr
 obtain⟨h1,h2,h3⟩:=hn b off none rfl;exact .inr ⟨b,off,rfl,Qb k2 h.size,fun i hi=>(World.cell?_of_block (a:=⟨b,off+i,none⟩) (h.blk b k2 h1 h2 h3)).trans (k3 i hi)⟩
end
theorem URow.below2 {w w1:World} {a:Option Addr} {n:Nat} {F:Nat->Nat} (hr:URow w a n F) (hb:Below w.heap.size w w1):URow w1 a n F:=by
 rcases hr with hr|⟨b,off,rfl,k2,k3⟩
 . exact .inl hr
 exact .inr ⟨b,off,rfl,Qb k2 hb.size,fun i hi=>(hb.cell (p:=⟨b,off+i,none⟩) k2).trans (k3 i hi)⟩
theorem Kh {t:TypeId} {w:World} {b b':Nat} {v:Value} {S:List Tok} (h:OwnK t w b v S) (hb:b'<=b):OwnK t w b' v S:=by
 obtain⟨h1,h2⟩:=h;refine⟨h1,?_⟩;rcases h2 with h2|⟨g,cap,cur,e,h3,h4⟩
 . exact .inl h2
 exact .inr ⟨g,cap,cur,e,Qe hb h3,h4⟩
theorem SAt.alloc {w0 wt:World} {B n cap p z most e:Nat} {a:Option Addr} (h:SAt w0 wt B a n cap p z most e) (o:Obj):SAt w0 (wt.alloc o) B a n cap p z most e:=h.below ((Below.refl _ _).alloc (Qa _) o)
theorem SAt.set2 {w0 wt:World} {B n cap p z most e:Nat} {a:Option Addr} (h:SAt w0 wt B a n cap p z most e) (z':Nat):SAt w0 (wt.setCell ⟨B,2,none⟩ (.int .i64 (z':Int))) B a n cap p z' most e:=by
 refine⟨?_,h.2.1.far (p:=⟨B,2,none⟩) (by show B+1 ≠ B;omega) _,h.2.2.1.setCell (p:=⟨B,2,none⟩) h.2.2.2 _,h.2.2.2⟩;have:=h.1.set_ 2 (.int .i64 (z':Int))
 simpa [SnC] using this
theorem SAt.far {w0 wt:World} {B n cap p z most e:Nat} {a:Option Addr} (h:SAt w0 wt B a n cap p z most e) {g:Nat} (hg:B+1<g) (i:Nat) (u:Value):SAt w0 (wt.setCell ⟨g,i,none⟩ u) B a n cap p z most e:=
 ⟨h.1.far (p:=⟨g,i,none⟩) (by show B ≠ g;omega) _,h.2.1.far (p:=⟨g,i,none⟩) (by show B+1 ≠ g;omega) _,h.2.2.1.setCell (p:=⟨g,i,none⟩) (by have:=h.2.2.2;show _<=g;omega) _,h.2.2.2⟩
theorem SAt.grown {w0 wt w1:World} {B n cap p z most e:Nat} {a:Option Addr} {row:Option Nat} (h:SAt w0 wt B a n cap p z most e) (hg:wt.grownBy w1 row) (hr:∀g,row=some g->B+1<g):SAt w0 w1 B a n cap p z most e:=
 ⟨h.1.grown hg (fun e=>by have:=hr B e.symm;omega),h.2.1.grown hg (fun e=>by have:=hr (B+1) e.symm;omega),h.2.2.1.grown hg (by have:=h.2.2.2;have:=h.1.lt;have h5:=h.2.2.1.size;exact h5) (fun g e=>by have:=hr g e;have:=h.2.2.2;omega),h.2.2.2⟩
theorem UP {w:World} {BB g:Nat} {t:TypeId} {v:Value} {S:List Tok} (h:OwnK t w BB v S) (hg:∀k,v.ownBlock=some k->k ≠ g) (i:Nat) (u:Value):OwnK t (w.setCell ⟨g,i,none⟩ u) BB v S:=by
 refine h.grown (Kc w ⟨g,i,none⟩ u) ?_
 cases hv:v.ownBlock with
 |none=>exact .inl rfl
 |some k=>
  refine .inr fun e=>?_;injection e with e;exact hg k hv e
theorem YiE {n k:Nat} {m:Nat->Int} (hk:Ydq n m k) (hn:n<=320) (h:∀i,i<n->0<=m i/\m i<=15):(k=0/\Fits (parts (lens m) n) (YG (lens m) n))\/(k=4/\¬Fits (parts (lens m) n) (YG (lens m) n)):=by
 rcases hk with⟨_,h1⟩|⟨_,_,i,h1,h2⟩|⟨h1,_,_,h2⟩|⟨h1,_,_,h2⟩
 . omega
 . exact absurd (h i h1) h2
 . exact .inr ⟨h1,h2⟩
 exact .inl ⟨h1,h2⟩
set_option maxHeartbeats 64000000 in
theorem Yae (m:Nat->Int) (c:Nat) (hm:∀i,i<c->0<=m i/\m i<=15) (hc:c<=288) (md:Nat->Int) (d:Nat) (hmd:∀i,i<d->0<=md i/\md i<=15) (hd:d<=32) (al ad:Option Addr) (capl capd:Nat)
 (ab:Nat) (s:ByteArray) (hs:s.size<=12500) (p z most e:Nat) (hp:p<=200000) (hz:z<=200000) (hze:e=0->z<=most) (hmo:most<=100000) {β:Type} (RES:Rs β) (f:List Tok->Sg->Rs β) (hL:LR s RES p z e (fun σ=>Yc (Vc m c md d most σ) f))
 (w:World) (hb:BRow w (some ⟨ab,0,none⟩) (8*s.size) (num s)) (hl:IRow w al c m) (hl2:IRow w ad d md) :
 Calls Tryz.prog 82 #[SnV (some ⟨ab,0,none⟩) (8*s.size) (8*s.size) p z most e,.slice al c capl,.slice ad d capd] w fun r w'=>∃(p' z' e':Nat) (S:List Tok) (v:Value),
  r=.returned (.tuple #[SnV (some ⟨ab,0,none⟩) (8*s.size) (8*s.size) p' z' most e',v])/\Hid (LR s RES p' z' e' (f S))/\Hid (OwnK 107 w' w.heap.size v S)/\p'<=200000/\z'<=200000/\p<=p'/\(e'=0->z'<=most)/\Below w.heap.size w w':=by
 obtain⟨k1,hk1⟩:=Yd0 c m;obtain⟨k2,hk2⟩:=Yd0 d md;have hk1':=YiE hk1 (by omega) hm;have hk2':=YiE hk2 (by omega) hmd;have CF1:=Qf (fun W hW=>Yd9 al c capl m (by omega) k1 hk1 W hW);have CF2:=Qf (fun W hW=>Yd9 ad d capd md (by omega) k2 hk2 W hW);have HBr:=Qf hb;have HIl:=Qf hl;have HId:=Qf hl2;have Hm:=Qf hm;have Hmd:=Qf hmd;have CW:=Qf (fun p z e c is W=>Uz (some ⟨ab,0,none⟩) (8*s.size) (8*s.size) p z most e c is W);have CN:=Qf (fun k (hk:k<=16) p2 z2 e2 (h2:p2<=1000000) (F:Nat->Sg->Rs β) W hL hW=>YbR (some ⟨ab,0,none⟩) (8*s.size) s (by omega) p2 z2 most e2 k hk h2 RES F hL W hW);have CY1:=Qf (fun au capu p2 z2 e2 (h2:p2<=900000) (F:Nat->Sg->Rs β) W hL hW hI hU=>YbP al c capl m (by omega) hm au capu (some ⟨ab,0,none⟩) (8*s.size) s (by omega) p2 z2 most e2 h2 RES F hL W hW hI hU);have CY2:=Qf (fun au capu p2 z2 e2 (h2:p2<=900000) (F:Nat->Sg->Rs β) W hL hW hI hU=>YbP ad d capd md (by omega) hmd au capu (some ⟨ab,0,none⟩) (8*s.size) s (by omega) p2 z2 most e2 h2 RES F hL W hW hI hU);have CT1:=Qf (fun W hW=>J5 al c capl m (by omega) hm W hW);have CT2:=Qf (fun W hW=>J5 ad d capd md (by omega) hmd W hW);obtain⟨L,HLm⟩:=Qi (lens m);obtain⟨Ld,HLd⟩:=Qi (lens md);obtain⟨F1,HF1⟩:=Qi (YD (lens m) c);obtain⟨F2,HF2⟩:=Qi (YD (lens md) d);rw[HF1.out] at CT1 CY1;rw[HF2.out] at CT2 CY2;rw[HLm.out] at CY1;rw[HLd.out] at CY2
 have HL0:Hid (LR s RES p z e (fun σ=>Yc (fitM m c σ) fun _ σ1=>Yc (fitM md d σ1) fun _ σ2=>Yc (tokM L c Ld d most (σ2.n+1) σ2 []) f)):=by
  show LR _ _ _ _ _ _;rw[<-HLm.out,<-HLd.out]
  have e:(fun σ=>Yc (Vc m c md d most σ) f)=(fun σ=>Yc (fitM m c σ) fun _ σ1=>Yc (fitM md d σ1) fun _ σ2=>Yc (tokM (lens m) c (lens md) d most (σ2.n+1) σ2 []) f):=by
   funext σ;unfold Vc;rw[Yi]
   congr 1
   funext u σ1;rw[Yi]
  rw[e] at hL;exact hL
 obtain⟨N,HN⟩:=Qi (8*s.size)
 have hNl:N<=100000:=by have:=HN.out;omega
 rw[HN.out] at CN CW CY1 CY2 HBr ⊢;clear hb hL hl hl2 hm hmd hk1 hk2;unfold SnV SnC at CN CW CY1 CY2 ⊢;obtain⟨D1,HD1⟩:∃D:Bool,Hid (((k1:Int)!=0)=D):=⟨_,Qf (Eq.refl _)⟩;obtain⟨D2,HD2⟩:∃D:Bool,Hid (((k2:Int)!=0)=D):=⟨_,Qf (Eq.refl _)⟩;have hD1:=HD1.out;have hD2:=HD2.out;obtain⟨e1,He1⟩:∃x:Nat,Hid ((if D1 then Yu e 3 else e)=x):=⟨_,Qf (Eq.refl _)⟩;obtain⟨e2,He2⟩:∃x:Nat,Hid ((if D2 then Yu e1 3 else e1)=x):=⟨_,Qf (Eq.refl _)⟩;have C1:=fun W=>CW.out p z e 3 D1 W;have C2:=fun W=>CW.out p z e1 3 D2 W;rw[He1.out] at C1;rw[He2.out] at C2;have HC1:=Qf C1;have HC2:=Qf C2
 have HL2:Hid (LR s RES p z e2 (fun σ2=>Yc (tokM L c Ld d most (σ2.n+1) σ2 []) f)):=by
  show LR _ _ _ _ _ _
  have h1:=HL0.out.check (D:=D1) (by decide) (by
   rw[<-hD1];rcases hk1' with⟨h1,h2⟩|⟨h1,h2⟩
   . subst h1;exact⟨fun h=>by simp at h,fun h=>absurd h2 h⟩
   subst h1;exact⟨fun _=>h2,fun _=>by decide⟩)
  rw[He1.out] at h1
  have h2:=h1.check (D:=D2) (by decide) (by
   rw[<-hD2];rcases hk2' with⟨h1,h2⟩|⟨h1,h2⟩
   . subst h1;exact⟨fun h=>by simp at h,fun h=>absurd h2 h⟩
   subst h1;exact⟨fun _=>h2,fun _=>by decide⟩)
  rw[He2.out] at h2;exact h2
 have Hee:Hid (e2=0->e=0):=Qf (fun h0=>by
  have h1:=He1.out;have h2:=He2.out
  have f:∀(D:Bool) (x y:Nat),(if D then Yu x 3 else x)=y->y=0->x=0:=by
   intro D x y h h0
   cases D with
   |false=>rw[if_neg (by decide)] at h;omega
   |true=>
    rw[if_pos rfl] at h;unfold Yu at h;split at h<;>omega
  exact f _ _ _ h1 (f _ _ _ h2 h0))
 clear C1 C2 HL0 hk1' hk2' He1 He2;have hBx:∀(A B:Array Value),Blk ((w.alloc (.cells A 149)).alloc (.cells B 149)) w.heap.size 149 A:=fun A B=>heap_alloc2_old w _ _;have hbb:∀(A B:Array Value),Below w.heap.size w ((w.alloc (.cells A 149)).alloc (.cells B 149)):=fun A B=>((Below.refl w.heap.size w).alloc (Qa _) _).alloc (by simp) _;have hBy:∀(A B:Array Value),Blk ((w.alloc (.cells A 149)).alloc (.cells B 149)) (w.heap.size+1) 149 B:=fun A B=>heap_alloc2_new w _ _;have HBx:=Qf hBx;have HBy:=Qf hBy;have Hbb:=Qf hbb;clear hBx hBy hbb;go_enter Tryz.func82,Tryz.ntmps82;go_wp2_with fail;have HS0:Hid (SAt w ((w.alloc (.cells #[.slice (some ⟨ab,0,none⟩) N N,.int .i64 (p:Int),.int .i64 (z:Int),.int .i64 (most:Int),.int .i64 (e:Int)] 149)).alloc (.cells #[.slice none 0 0,.int .i64 0,.int .i64 0,.int .i64 0,.int .i64 0] 149)) w.heap.size (some ⟨ab,0,none⟩) N N p z most e):=⟨HBx.out _ _,HBy.out _ _,Hbb.out _ _,Qa _⟩;obtain⟨w1,HW1⟩:=Qi ((w.alloc (.cells #[.slice (some ⟨ab,0,none⟩) N N,.int .i64 (p:Int),.int .i64 (z:Int),.int .i64 (most:Int),.int .i64 (e:Int)] 149)).alloc (.cells #[.slice none 0 0,.int .i64 0,.int .i64 0,.int .i64 0,.int .i64 0] 149));rw[HW1.out] at HS0 ⊢;obtain⟨B,HB⟩:=Qi (w.heap.size);have HS1:Hid (SAt w w1 B (some ⟨ab,0,none⟩) N N p z most e):=by show SAt _ _ _ _ _ _ _ _ _ _;rw[<-HB.out];exact HS0.out
 rw[HB.out];clear HS0 HW1 HBx HBy Hbb
 go_cut [] from 20 to 24 (fun wx=>Hid (SAt w wx B (some ⟨ab,0,none⟩) N N p z most e1))
 case first=>
  obtain⟨c0,c1,c2,c3,c4,f0,f1,f2,f3,f4⟩:=HS1.out.cells;have HSd:=Qf HS1.out.drew;have hIl:IRow w1.drew al c m:=HIl.out.below HSd.out.2.2.1
  go_region_with (first
   |(go_at_call 104;refine(CF1.out _ hIl).mono ?_;rintro r w2 ⟨rfl,hw2⟩;subst hw2)
   |(go_at_call 84;refine(HC1.out _).mono ?_;rintro r w2 ⟨rfl,hb2⟩;have HS2:=Qf (HSd.out.below hb2);obtain⟨k0,k1,k2,k3,k4,h0,h1,h2,h3,h4⟩:=HS2.out.cells))
  all_goals
   go_wp2_with fail;go_meet;exact Qf (HS2.out.set_ p z most e1)
 case rest=>
 have HSc1:Hid (SAt w wc B (some ⟨ab,0,none⟩) N N p z most e1):=hcut;obtain⟨wd,Hwd⟩:=Qi (wc);rw[Hwd.out] at HSc1 ⊢;clear hcut Hwd HS1 CF1 HC1;go_wp2_with fail
 go_cut [] from 25 to 29 (fun wx=>Hid (SAt w wx B (some ⟨ab,0,none⟩) N N p z most e2))
 case first=>
  obtain⟨c0,c1,c2,c3,c4,f0,f1,f2,f3,f4⟩:=HSc1.out.cells;have HSd:=Qf HSc1.out.drew;have hIl:IRow wd.drew ad d md:=HId.out.below HSd.out.2.2.1
  go_region_with (first
   |(go_at_call 104;refine(CF2.out _ hIl).mono ?_;rintro r w2 ⟨rfl,hw2⟩;subst hw2)
   |(go_at_call 84;refine(HC2.out _).mono ?_;rintro r w2 ⟨rfl,hb2⟩;have HS2:=Qf (HSd.out.below hb2);obtain⟨k0,k1,k2,k3,k4,h0,h1,h2,h3,h4⟩:=HS2.out.cells))
  all_goals
   go_wp2_with fail;go_meet;exact Qf (HS2.out.set_ p z most e2)
 case rest=>
 have HSc2:Hid (SAt w wc B (some ⟨ab,0,none⟩) N N p z most e2):=hcut;have hwB:w.heap.size<=B:=by rw[HB.out];exact Qa _
 go_wp2_with fail;refine(YhI wc).mono ?_;rintro r w3 ⟨ga,gb,gc,gd,hga,hgb,hgc,hgd,rfl,hA,hBb,hC,hD,hb3⟩;have HS3:=Qf (HSc2.out.below hb3);have hcB:=HSc2.out.2.1.lt;obtain⟨G0,HG0⟩:=Qi (w3.heap.size)
 have hg3:ga<G0/\gb<G0/\gc<G0/\gd<G0:=by
  have lt:∀{g n:Nat} {m:Nat->Int},0<n->IRow w3 (some ⟨g,0,none⟩) n m->g<w3.heap.size:=fun hn h=>by
   rcases h with h|⟨b,off,e,h,_⟩
   . omega
   injection e with e;injection e with e;omega
  rw[<-HG0.out];exact⟨lt (by decide) hA,lt (by decide) hBb,lt (by decide) hC,lt (by decide) hD⟩
 have hgB:B+1<ga/\B+1<gb/\B+1<gc/\B+1<gd/\B+1<G0:=by
  have:=HS3.out.2.1.lt;have:=HG0.out;omega
 have hba:=(Below.refl w3.heap.size w3).alloc (Qa _) (.cells #[] 107);have HA:=Qf (hA.below hba);have HBb:=Qf (hBb.below hba);have HC:=Qf (hC.below hba);have HD:=Qf (hD.below hba)
 have HO4:Hid (OwnK 107 (w3.alloc (.cells #[] 107)) (B+2) (.slice (some ⟨G0,0,none⟩) 0 0) []):=by
  have:=Blk.new w3 107 #[];rw[HG0.out] at this;exact Kv (cur:=#[]) this (by omega) (Qa _) (Nat.zero_le _) rfl rfl
 have HS4:=Qf (HS3.out.alloc (.cells #[] 107));clear hA hBb hC hD hb3 hba hga hgb hgc hgd hcB;go_upto_region 5 with fail;rw[HG0.out];obtain⟨w4,HW4⟩:=Qi (w3.alloc (.cells #[] 107));rw[HW4.out] at HA HBb HC HD HO4 HS4 ⊢;have hG4:w4.heap.size=G0+1:=by rw[<-HW4.out,<-HG0.out];simp
 clear HW4 HS3;obtain⟨c0,c1,c2,c3,c4,f0,f1,f2,f3,f4⟩:=HS4.out.cells;by_cases he2:e2=0
 . subst he2
   go_wp2_with fail;clear c0 c1 c2 c3 c4 f0 f1 f2 f3 f4;refine(CT1.out w4 (HIl.out.below HS4.out.2.2.1)).mono ?_;rintro r w5 ⟨v5,rfl,hU5,hb5⟩;obtain⟨au1,cu1,rfl,hU1,hau1⟩:=Ydu hU5;have HU1:=Qf hU1;have HS5:=Qf (HS4.out.below hb5);have HO5:=Qf (HO4.out.below hb5 (Qa _));have HA5:=Qf (HA.out.below hb5);have HBb5:=Qf (HBb.out.below hb5);have HC5:=Qf (HC.out.below hb5);have HD5:=Qf (HD.out.below hb5);have hs45:=hb5.size;have Hau1:Hid (∀b off sp,au1=some ⟨b,off,sp⟩->G0<b):=Qf (fun b off sp h=>by have:=(hau1 b off sp h).1;omega);clear hb5 hU1 hU5 hau1 HS4 HO4 HA HBb HC HD;go_wp2_with fail;refine(CT2.out w5 (HId.out.below HS5.out.2.2.1)).mono ?_;rintro r w6 ⟨v6,rfl,hU6,hb6⟩;obtain⟨au2,cu2,rfl,hU2,hau2⟩:=Ydu hU6;have HU2:=Qf hU2;have HU1b:=Qf (HU1.out.below2 hb6);have HS6:=Qf (HS5.out.below hb6);have HO6:=Qf (HO5.out.below hb6 (Qa _));have HA6:=Qf (HA5.out.below hb6);have HBb6:=Qf (HBb5.out.below hb6);have HC6s:=Qf (HC5.out.below hb6);have HD6s:=Qf (HD5.out.below hb6);have Hau2:Hid (∀b off sp,au2=some ⟨b,off,sp⟩->G0<b):=Qf (fun b off sp h=>by have:=(hau2 b off sp h).1;omega)
   have hG6:G0<w6.heap.size:=by have:=hb6.size;omega
   clear hb6 hU2 hU6 hau2 HS5 HO5 HA5 HBb5 HC5 HD5 HU1 hs45 hG4
   have HT0:Hid (TLr L c Ld d most s RES f p z 0 []):=by
    rcases HL2.out with⟨h0,h1,h2⟩|⟨h0,_⟩
    . exact .inl ⟨rfl,h1,_,Nat.lt_succ_self _,h2⟩
    exact absurd rfl h0
   have HK0:Hid (Kp B G0 w6 w6):=Kp.refl w6
   have HV0:Hid (∀g,(Value.slice (some ⟨G0,0,none⟩) 0 0).ownBlock=some g->g=G0\/w6.heap.size<=g):=fun g h=>by injection h with h;exact .inl h.symm
   have hpz0:p<=N/\z<=most:=⟨by have:=HL2.out.ok.1;have:=HN.out;omega,hze (Hee.out (by first|rfl|trivial))⟩;obtain⟨q0,Hq0⟩:=Qi (p);clear HL2;go_wp2_with fail
   go_loopw [12] (fun v_ wr=>∃(p z e:Nat) (S:List Tok),q0<=p/\p<=N+100/\(e=0->p<=N)/\z<=most+1000/\(e=0->z<=most)/\S.length<=p+1/\(e=0->S.length<=p)/\Hid (SAt w wr B (some ⟨ab,0,none⟩) N N p z most e)/\Hid (TLr L c Ld d most s RES f p z e S)/\Hid (OwnK 107 wr (B+2) v_ S)/\Hid (∀g,v_.ownBlock=some g->g=G0\/w6.heap.size<=g)/\Hid (Kp B G0 w6 wr))
    (fun _ wr=>if Ym wr ⟨B,4,none⟩=0 then N+1-Ym wr ⟨B,1,none⟩ else 0)
   case atStart=>exact⟨p,z,0,[],by have:=Hq0.out;omega,by omega,(fun _=>hpz0.1),by omega,(fun _=>hpz0.2),Nat.zero_le _,(fun _=>Nat.zero_le _),HS6,HT0,HO6,HV0,HK0⟩
   clear HS6 HT0 HO6 HV0 HK0 hpz0;obtain⟨p,z,e,S,hq0p,hpN,hpe,hzm,hze,hSl,hSe,HS,HT,HO,HV,HK⟩:=hrel;obtain⟨c0,c1,c2,c3,c4,f0,f1,f2,f3,f4⟩:=HS.out.cells;have cm4:Ym wr ⟨B,4,none⟩=e:=Yf c4;have cm1:Ym wr ⟨B,1,none⟩=p:=Yf c1;have Hcm4:=Qf cm4;have Hcm1:=Qf cm1;clear cm4 cm1;by_cases he:e=0
   . subst he
     obtain⟨hp8,fu,hfu,hLs⟩:=HT.out.step;have Hfu:=Qf hfu;have HLs:=Qf hLs;have hbr:BRow wr (some ⟨ab,0,none⟩) N (num s):=HBr.out.below HS.out.2.2.1 (Qa _)
     have Hn1:Hid (∀b off sp,au1=some ⟨b,off,sp⟩->b ≠ B/\b ≠ B+1/\b ≠ G0):=fun b off sp h=>by have:=Hau1.out b off sp h;omega
     have Hn2:Hid (∀b off sp,au2=some ⟨b,off,sp⟩->b ≠ B/\b ≠ B+1/\b ≠ G0):=fun b off sp h=>by have:=Hau2.out b off sp h;omega
     have hu1:=HK.out.urow HU1b.out Hn1.out;have hzm0:z<=most:=hze rfl;have hpN0:p<=N:=hpe rfl;have hSl0:S.length<=p:=hSe rfl;clear hfu hLs HT hpe hze hSe;go_wp2_with fail;refine(CY1.out au1 cu1 p z 0 (by omega) _ wr HLs.out hbr (HIl.out.below HS.out.2.2.1) hu1).mono ?_;rintro r wa ⟨p1,v1,e1,rfl,HL1,hp1,hz1,hp1',hv1,hb1⟩;have HSa:=Qf (HS.out.below hb1);have HOa:=Qf (HO.out.below hb1 (Qa _));have HKa:=Qf (HK.out.below hb1);have Hz1:Hid (e1=0->p<p1/\p1<=N/\v1<c):=Qf (fun h=>by have:=hz1 h;have:=HN.out;omega);clear c0 c1 c2 c3 c4 f0 f1 f2 f3 f4;obtain⟨c0,c1,c2,c3,c4,f0,f1,f2,f3,f4⟩:=HSa.out.cells;clear hz1 hv1 hb1 HS HO HK hbr hu1 HLs;go_upto_region 11 with(fail);change Code.wp _ _ _ _ (setS wa B (some ⟨ab,0,none⟩) N N p1 z most e1);have HSW1:=Qf (HSa.out.set_ p1 z most e1);obtain⟨W1,HWW1⟩:=Qi (setS wa B (some ⟨ab,0,none⟩) N N p1 z most e1);rw[HWW1.out] at HSW1 ⊢;have HOW1:=Qf (Y2 (a:=(some ⟨ab,0,none⟩)) (n:=N) (cap:=N) (p:=p1) (z:=z) (most:=most) (e:=e1) HOa.out (show B<B+2 by omega));have HKW1:=Qf (HKa.out.setS B (.inl rfl) (some ⟨ab,0,none⟩) N N p1 z most e1);rw[HWW1.out] at HOW1 HKW1;clear c0 c1 c2 c3 c4 f0 f1 f2 f3 f4;clear HSa HOa HKa HWW1;obtain⟨c0,c1,c2,c3,c4,f0,f1,f2,f3,f4⟩:=HSW1.out.cells;by_cases he1:e1=0
     . subst he1
       obtain⟨hpp,hpN1,hvc⟩:=Hz1.out rfl;by_cases h256:v1=256
       . subst h256
         have HL9:Hid (LR s RES p1 z 0 (f S)):=HL1.out.congr (by unfold tF1;rw[if_pos rfl];rfl);clear HL1;obtain⟨d0,d1,d2,d3,d4,g0,g1,g2,g3,g4⟩:=HSW1.out.res;go_wp2_with fail
         (try simp only[Exit.inBlock,Exit.then])
         refine bodyPost_ret (Y8 rfl rfl (HSW1.out.ret _ _ _ p1 z most 0).1) rfl ?_;exact⟨p1,z,0,(S),_,rfl,HL9,Qf (Kh (Y2 (B:=B+1) HOW1.out (Nat.lt_succ_self _)) (by omega)),by omega,by omega,by rw[Hq0.out];omega,by first|(intro _;exact hzm0)|(intro h0;exact absurd h0 (by assumption)),(HSW1.out.ret _ _ _ p1 z most 0).2⟩
       have d256:((v1:Int)==256)=false:=(by simp;omega);obtain⟨y,Hy⟩:∃y:Nat,Hid (v1%256=y):=⟨_,Qf (Eq.refl _)⟩
       have hyw:IntKind.u8.wrap (v1:Int)=(y:Int):=by rw[IntKind.wrap_u8];have:=Hy.out;omega
       have hyl:y<256:=by have:=Hy.out;omega
       by_cases hlt:v1<256
       . have d257:decide ((256:Int)<(v1:Int))=false:=Qh (by omega)
         have d257b:decide (256<v1)=false:=Qh (by omega)
         have hyv:v1=y:=by have:=Hy.out;omega
         have HLg:Hid (LR s RES p1 z 0 (fun σ=>Yc (VY most 1 σ) fun _ σ2=>tK L c Ld d most fu f S (some ⟨UInt8.ofNat y,0,0⟩) σ2)):=by
          have h:=HL1.out;rw[hyv] at h h256 hlt;exact h.congr (by unfold tF1;rw[if_neg h256,if_pos hlt])
         clear HL1 hyv;obtain⟨z1,Hzz⟩:=Qi (z+1)
         have hz1I:(z:Int)+1=(z1:Int):=by have:=Hzz.out;omega
         have hz1l:z1<=200000:=by have:=Hzz.out;omega
         obtain⟨D5,HD5⟩:∃D:Bool,Hid (decide ((most:Int)<(z1:Int))=D):=⟨_,Qf (Eq.refl _)⟩;have hD5:=HD5.out;have hD5b:decide (most<z1)=D5:=(by rw[<-hD5];simp);have hlB:=HSW1.out.1.lt;have hlB1:=HSW1.out.2.1.lt;go_wp2_with fail;obtain⟨T,HT⟩:=Qi (W1.heap.size);have HS2:=Qf ((HSW1.out.set2 z1).alloc (.cells #[.int .u8 (y:Int),.int .i64 0,.int .i64 0] 107))
         have HB2:Hid (Blk ((W1.setCell ⟨B,2,none⟩ (.int .i64 (z1:Int))).alloc (.cells #[.int .u8 (y:Int),.int .i64 0,.int .i64 0] 107)) T 107 #[.int .u8 (y:Int),.int .i64 0,.int .i64 0]):=by
          have h:=Blk.new (W1.setCell ⟨B,2,none⟩ (.int .i64 (z1:Int))) 107 #[.int .u8 (y:Int),.int .i64 0,.int .i64 0];rw[show(W1.setCell ⟨B,2,none⟩ (.int .i64 (z1:Int))).heap.size=T by rw[<-HT.out];simp[World.setCell]] at h;exact h
         have HO2:=Qf (OwnK.below (UP HOW1.out (g:=B) (fun k hk=>by have:=(World.ownsRow.lt HOW1.out k hk).1;omega) 2 (.int .i64 (z1:Int))) ((Below.refl _ _).alloc (Qa _) (.cells #[.int .u8 (y:Int),.int .i64 0,.int .i64 0] 107)) (Qa _));have HK2:=Qf ((HKW1.out.far (g:=B) (.inl rfl) 2 (.int .i64 (z1:Int))).below ((Below.refl _ _).alloc (Qa _) (.cells #[.int .u8 (y:Int),.int .i64 0,.int .i64 0] 107)));obtain⟨W2,HW2⟩:=Qi ((W1.setCell ⟨B,2,none⟩ (.int .i64 (z1:Int))).alloc (.cells #[.int .u8 (y:Int),.int .i64 0,.int .i64 0] 107));rw[HW2.out] at HS2 HB2 HO2 HK2 ⊢;rw[HT.out]
         have hTB:B+1<T/\w6.heap.size<=T:=by have:=HSW1.out.2.1.lt;have:=HT.out;have:=HKW1.out.size;omega
         clear c0 c1 c2 c3 c4 f0 f1 f2 f3 f4;clear HSW1 HOW1 HKW1 HW2 HT;obtain⟨e6,He6⟩:∃x:Nat,Hid ((if D5 then Yu 0 2 else 0)=x):=⟨_,Qf (Eq.refl _)⟩;have C5:=CW.out p1 z1 0 2 D5 W2;rw[He6.out] at C5
         have HLn:Hid (LR s RES p1 z1 e6 (tK L c Ld d most fu f S (some ⟨UInt8.ofNat y,0,0⟩))):=by
          have h:=HLg.out.growE (D:=D5) (by rw[<-hD5,decide_eq_true_eq];have:=Hzz.out;omega);rw[He6.out,Hzz.out] at h;exact h
         have hz6:e6=0->z1<=most:=fun h0=>by
          have:=He6.out
          cases hDc:D5 with
          |true=>rw[hDc] at this;unfold Yu at this;simp at this;omega
          |false=>rw[hDc,decide_eq_false_iff_not] at hD5;omega
         have Hz6:=Qf hz6;have HC5:=Qf C5;clear C5 HLg He6 hz6;refine HC5.out.mono ?_;rintro r wb ⟨rfl,hb2⟩;have HS3:=Qf (HS2.out.below hb2);have HB3:=Qf (HB2.out.below hb2 HB2.out.lt);have HO3:=Qf (HO2.out.below hb2 (Qa _));have HK3:=Qf (HK2.out.below hb2);clear hb2 HS2 HB2 HO2 HK2 HC5 hD5 hD5b HD5;obtain⟨c0,c1,c2,c3,c4,f0,f1,f2,f3,f4⟩:=HS3.out.cells;go_upto_region 30 with(fail);change Code.wp _ _ _ _ (setS wb B (some ⟨ab,0,none⟩) N N p1 z1 most e6);have HSW4:=Qf (HS3.out.set_ p1 z1 most e6);obtain⟨W4,HWW4⟩:=Qi (setS wb B (some ⟨ab,0,none⟩) N N p1 z1 most e6);rw[HWW4.out] at HSW4 ⊢;have HB4:=Qf (YX (a:=(some ⟨ab,0,none⟩)) (n:=N) (cap:=N) (p:=p1) (z:=z1) (most:=most) (e:=e6) HB3.out (show T ≠ B by omega));have HO4:=Qf (Y2 (a:=(some ⟨ab,0,none⟩)) (n:=N) (cap:=N) (p:=p1) (z:=z1) (most:=most) (e:=e6) HO3.out (show B<B+2 by omega));have HK4:=Qf (HK3.out.setS B (.inl rfl) (some ⟨ab,0,none⟩) N N p1 z1 most e6);rw[HWW4.out] at HB4 HO4 HK4;clear c0 c1 c2 c3 c4 f0 f1 f2 f3 f4;clear HS3 HB3 HO3 HK3 HWW4
         have hzB:z1<=most+1000:=by have:=Hzz.out;omega
         have hppT:p<p1:=hpp;have hpNT:p1<=N:=hpN1;have HzT:=Hz6;have t0:=HB4.out.cell 0;have t1:=HB4.out.cell 1;have t2:=HB4.out.cell 2;simp at t0 t1 t2;have hos:=HO4.out
         have hbsw:B+2<=W4.heap.size:=by have:=HSW4.out.2.1.lt;omega
         go_wp2_with (first
          |(at_builtin;go_must (refine Yd W4 rfl (.tmp 148) (.tmp 150) rfl Tryz.underlying103 Yc6 rfl (by decide) (B+2) u12 S.length (YU S) [.int .u8 (y:Int),.int .i64 0,.int .i64 0] hos rfl ?_ rfl rfl rfl ?_ ?_ hbsw ?_;(intro u hu;simp at hu;rcases hu with rfl|rfl|rfl<;>rfl);(unfold maxLen;omega);omega;intro v7 w7 hown7 hg7 hn7;have HO7:=Qf hown7;have HG7:=Qf hg7;have HN7:=Qf hn7;clear hown7 hg7 hn7))
          |fail)
         have HS7:=Qf (HSW4.out.grown HG7.out (fun g hg=>by have:=(World.ownsRow.lt hos g hg).1;omega));have HT7:Hid (TLr L c Ld d most s RES f p1 z1 e6 (S++[⟨UInt8.ofNat y,0,0⟩])):=TLr.next HLn.out Hfu.out (fun _=>hppT)
         have HO7b:Hid (OwnK 107 w7 (B+2) v7 (S++[⟨UInt8.ofNat y,0,0⟩])):=Qf (OwnK.snoc (t:=⟨UInt8.ofNat y,0,0⟩) (by
          have e:(UInt8.ofNat y).toNat=y:=by first|rfl|(rw[UInt8.toNat_ofNat'];omega)
          show w7.ownsRow _ _ _ _ _ (YU S++[.int .u8 ((UInt8.ofNat y).toNat:Int),.int .i64 0,.int .i64 0]);rw[e]
          exact HO7.out))
         have HK7:=Qf (HK4.out.grown HG7.out HV.out)
         have HV7:Hid (∀g,v7.ownBlock=some g->g=G0\/w6.heap.size<=g):=Qf (fun g hg=>by
          by_cases h1:g<W4.heap.size
          . by_cases h2:u12.ownBlock=some g
            . exact HV.out g h2
            exact absurd hg (HN7.out g h1 h2)
          have:=HK4.out.size
          exact .inr (by omega))
         have cm4:Ym w7 ⟨B,4,none⟩=e6:=Yf HS7.out.cells.2.2.2.2.1;have cm1:Ym w7 ⟨B,1,none⟩=p1:=Yf HS7.out.cells.2.1;have Hdm4:=Qf cm4;have Hdm1:=Qf cm1;clear cm4 cm1 hos hbsw HO7 HG7 HN7 HSW4 HO4 HK4 HB4 t0 t1 t2;go_roundw
         case rel=>exact⟨p1,z1,e6,S++[⟨UInt8.ofNat y,0,0⟩],by omega,by omega,(fun h0=>by rcases HLn.out with⟨_,h,_⟩|⟨h,_⟩;(have:=HN.out;omega);exact absurd h0 h),hzB,HzT.out,(by rw[List.length_append];show S.length+1<=_;omega),(fun _=>by rw[List.length_append];show S.length+1<=_;omega),HS7,HT7,HO7b,HV7,HK7⟩
         rw[Hdm4.out,Hdm1.out,Hcm4.out,Hcm1.out,if_pos rfl];split<;>omega
       have d257:decide ((256:Int)<(v1:Int))=true:=Qg (by omega);have d257b:decide (256<v1)=true:=Qg (by omega);obtain⟨D6,HD6⟩:∃D:Bool,Hid (decide ((285:Int)<(v1:Int))=D):=⟨_,Qf (Eq.refl _)⟩;have hD6:=HD6.out;have hD6b:decide (285<v1)=D6:=(by rw[<-hD6,decide_eq_decide];omega);have hlB:=HSW1.out.1.lt;have hlB1:=HSW1.out.2.1.lt;go_wp2_with fail;obtain⟨T,HT⟩:=Qi (W1.heap.size);have HnT:Hid (∀k,u12.ownBlock=some k->k ≠ T):=Qf (fun k hk=>by have:=(World.ownsRow.lt HOW1.out k hk).2;have:=HT.out;omega);have hba:=(Below.refl W1.heap.size W1).alloc (Qa _) (.cells #[.int .u8 (y:Int),.int .i64 0,.int .i64 0] 107);have HSi:=Qf (HSW1.out.alloc (.cells #[.int .u8 (y:Int),.int .i64 0,.int .i64 0] 107))
       have HBi:Hid (Blk (W1.alloc (.cells #[.int .u8 (y:Int),.int .i64 0,.int .i64 0] 107)) T 107 #[.int .u8 (y:Int),.int .i64 0,.int .i64 0]):=by
        have h:=Blk.new W1 107 #[.int .u8 (y:Int),.int .i64 0,.int .i64 0];rw[HT.out] at h;exact h
       have HOi:=Qf (HOW1.out.below hba (Qa _));have HKi:=Qf (HKW1.out.below hba);obtain⟨W2,HW2⟩:=Qi (W1.alloc (.cells #[.int .u8 (y:Int),.int .i64 0,.int .i64 0] 107));rw[HW2.out] at HSi HBi HOi HKi ⊢;rw[HT.out]
       have hTB:B+1<T/\w6.heap.size<=T:=by have:=HSW1.out.2.1.lt;have:=HT.out;have:=HKW1.out.size;omega
       clear c0 c1 c2 c3 c4 f0 f1 f2 f3 f4;clear HSW1 HOW1 HKW1 HW2 HT hba hlB hlB1;obtain⟨e2,He2⟩:∃x:Nat,Hid ((if D6 then Yu 0 3 else 0)=x):=⟨_,Qf (Eq.refl _)⟩;have C6:=CW.out p1 z 0 3 D6 W2;rw[He2.out] at C6;have HC6:=Qf C6;clear C6;refine HC6.out.mono ?_;rintro r wb ⟨rfl,hb2⟩;have HSj:=Qf (HSi.out.below hb2);have HBj:=Qf (HBi.out.below hb2 HBi.out.lt);have HOj:=Qf (HOi.out.below hb2 (Qa _));have HKj:=Qf (HKi.out.below hb2);clear HSi HBi HOi HKi;obtain⟨c0,c1,c2,c3,c4,f0,f1,f2,f3,f4⟩:=HSj.out.cells;clear HC6 hb2;go_upto_region 17 with(fail);change Code.wp _ _ _ _ (setS wb B (some ⟨ab,0,none⟩) N N p1 z most e2);have HSW3:=Qf (HSj.out.set_ p1 z most e2);obtain⟨W3,HWW3⟩:=Qi (setS wb B (some ⟨ab,0,none⟩) N N p1 z most e2);rw[HWW3.out] at HSW3 ⊢;have HBW3:=Qf (YX (a:=(some ⟨ab,0,none⟩)) (n:=N) (cap:=N) (p:=p1) (z:=z) (most:=most) (e:=e2) HBj.out (show T ≠ B by omega));have HOW3:=Qf (Y2 (a:=(some ⟨ab,0,none⟩)) (n:=N) (cap:=N) (p:=p1) (z:=z) (most:=most) (e:=e2) HOj.out (show B<B+2 by omega));have HKW3:=Qf (HKj.out.setS B (.inl rfl) (some ⟨ab,0,none⟩) N N p1 z most e2);rw[HWW3.out] at HBW3 HOW3 HKW3;clear c0 c1 c2 c3 c4 f0 f1 f2 f3 f4;clear HSj HBj HOj HKj HWW3;obtain⟨c0,c1,c2,c3,c4,f0,f1,f2,f3,f4⟩:=HSW3.out.cells;by_cases hee:e2=0
       . subst hee
         have h285:v1<=285:=by
          have:=He2.out
          cases hDc:D6 with
          |true=>rw[hDc] at this;cases this
          |false=>rw[hDc,decide_eq_false_iff_not] at hD6;omega
         have HLk:Hid (LR s RES p1 z 0 (fun σ=>Yc (Yy (Yl false ((v1:Int)-257)).2 σ) (tF2 Ld d most (tK L c Ld d most fu f S) (Yl false ((v1:Int)-257)).1))):=
          HL1.out.congr (by unfold tF1;rw[if_neg h256,if_neg hlt,if_neg (by omega)])
         obtain⟨hn3,hn258,hK5⟩:=Ybg v1 hlt h256 (by omega);obtain⟨i,Hi⟩:∃i:Nat,Hid (v1=257+i):=⟨v1-257,by show _=_;omega⟩
         have hi28:i<=28:=by have:=Hi.out;omega
         have hiI:(v1:Int)-257=(i:Int):=by have:=Hi.out;omega
         rw[hiI] at HLk hn3 hn258 hK5;obtain⟨ns,Hns⟩:=Qi ((Yl false (i:Int)).1);obtain⟨K1,HK1⟩:=Qi ((Yl false (i:Int)).2);rw[Hns.out] at HLk hn3 hn258;rw[HK1.out] at HLk hK5;clear HL1 He2 hD6 hD6b HD6 hlt h256;go_upto_region 19 with(fail)
         have HX1:Hid (∀W,Kp B G0 w6 W->W.cell? ⟨gb,i,none⟩=some (.int .i64 (K1:Int))/\W.cell? ⟨ga,i,none⟩=some (.int .i64 (ns:Int))):=Qf (fun W hW=>by
          obtain⟨b1,o1,ee1,_,x1⟩:=(hW.irow HBb6.out (by omega) (by omega) (by omega)).get i (by omega);obtain⟨b2,o2,ee2,_,x2⟩:=(hW.irow HA6.out (by omega) (by omega) (by omega)).get i (by omega);injection ee1 with ee1;injection ee1 with ee1 oo1;injection ee2 with ee2;injection ee2 with ee2 oo2;subst ee1 oo1 ee2 oo2;rw[Nat.zero_add,HK1.out] at x1;rw[Nat.zero_add,Hns.out] at x2
          exact⟨x1,x2⟩)
         go_cut [17] from 46 to 151 (fun m_ wx=>∃(p2 b e3:Nat),m_=.int .i64 (b:Int)/\p1<=p2/\p2<=p1+16/\b<=31/\Hid (LR s RES p2 z e3 (tF2 Ld d most (tK L c Ld d most fu f S) ns b))/\Hid (SAt w wx B (some ⟨ab,0,none⟩) N N p2 z most e3)/\Hid (Blk wx T 107 #[.int .u8 (y:Int),.int .i64 0,.int .i64 0])/\Hid (OwnK 107 wx (B+2) u12 S)/\Hid (Kp B G0 w6 wx))
         case first=>
          have HSd:=Qf HSW3.out.drew;have xb:W3.drew.cell? ⟨gb,i,none⟩=some (.int .i64 (K1:Int)):=(HX1.out W3 HKW3.out).1;have hi29:i<29:=(by omega);have hi29I:(i:Int)<29:=(by omega);have hiw:IntKind.i64.wrap (i:Int)=(i:Int):=IntWalk.i64_in _ (by omega);have hbr:BRow W3.drew (some ⟨ab,0,none⟩) N (num s):=HBr.out.below HSd.out.2.2.1 (Qa _)
          go_region_with (first
           |(go_at_call 79;refine(CN.out K1 (by omega) p1 z 0 (by omega) _ _ HLk.out hbr).mono ?_;rintro r w2 ⟨p2,b,e3,rfl,HL2,hv2,hp2,hp2',hz2,hb2⟩;have HS2:=Qf (HSd.out.below hb2);obtain⟨k0,k1_,k2_,k3,k4,h0,h1,h2,h3,h4⟩:=HS2.out.cells))
          all_goals
           go_wp2_with fail;go_meet
           exact⟨p2,b,e3,rfl,hp2,by omega,by
            have h2:2^K1<=2^5:=Nat.pow_le_pow_right (by decide) hK5;have h3:(2:Nat)^5=32:=by decide
            omega,HL2,Qf (HS2.out.set_ p2 z most e3),Qf (YX (HBW3.out.drew.below hb2 HBW3.out.lt) (show T ≠ B by omega)),Qf (Y2 (OwnK.below (show OwnK 107 W3.drew (B+2) u12 S from HOW3.out) hb2 (Qa _)) (show B<B+2 by omega)),Qf (Kp.setS (Kp.below (show Kp B G0 w6 W3.drew from⟨HKW3.out.size,HKW3.out.blk⟩) hb2) B (.inl rfl) (some ⟨ab,0,none⟩) N N p2 z most e3)⟩
         case rest=>
         obtain⟨p2,b,e3,rfl,hp2,hp2',hb31,HL2,HSk,HBk,HOk,HKk⟩:=hcut;clear c0 c1 c2 c3 c4 f0 f1 f2 f3 f4;clear HSW3 HBW3 HOW3 HKW3 HLk;obtain⟨c0,c1,c2,c3,c4,f0,f1,f2,f3,f4⟩:=HSk.out.cells;obtain⟨-,xa⟩:=HX1.out _ HKk.out;obtain⟨n1,Hn1⟩:=Qi (ns+b)
         have hn1I:(ns:Int)+(b:Int)=(n1:Int):=by have:=Hn1.out;omega
         have hn1l:n1<=300:=by have:=Hn1.out;omega
         have HLs2:Hid (LR s RES p2 z e3 (fun σ=>Yc (symM Ld d σ) (tF3 most (tK L c Ld d most fu f S) n1))):=by
          show LR _ _ _ _ _ _;rw[<-Hn1.out];exact HL2.out
         clear HL2;have hbr2:BRow wc (some ⟨ab,0,none⟩) N (num s):=HBr.out.below HSk.out.2.2.1 (Qa _);have hu2:=HKk.out.urow HU2.out Hn2.out;go_wp2_with fail;refine(CY2.out au2 cu2 p2 z e3 (by omega) _ wc HLs2.out hbr2 (HId.out.below HSk.out.2.2.1) hu2).mono ?_;rintro r wd2 ⟨p3,q,e4,rfl,HL3,hp3,hz3,hp3',hq3,hb3⟩;have Hz3:Hid (e4=0->p2<p3/\p3<=N/\q<d):=Qf (fun h=>by have:=hz3 h;have:=HN.out;omega);clear c0 c1 c2 c3 c4 f0 f1 f2 f3 f4;have HSl:=Qf (HSk.out.below hb3);have HBl:=Qf (HBk.out.below hb3 HBk.out.lt);have HOl:=Qf (HOk.out.below hb3 (Qa _));have HKl:=Qf (HKk.out.below hb3);clear HSk HBk HOk HKk;obtain⟨c0,c1,c2,c3,c4,f0,f1,f2,f3,f4⟩:=HSl.out.cells;clear hz3 hq3 hb3 hbr2 hu2 HLs2 xa;go_upto_region 22 with(fail);change Code.wp _ _ _ _ (setS wd2 B (some ⟨ab,0,none⟩) N N p3 z most e4);have HSW5:=Qf (HSl.out.set_ p3 z most e4);obtain⟨W5,HWW5⟩:=Qi (setS wd2 B (some ⟨ab,0,none⟩) N N p3 z most e4);rw[HWW5.out] at HSW5 ⊢;have HBW5:=Qf (YX (a:=(some ⟨ab,0,none⟩)) (n:=N) (cap:=N) (p:=p3) (z:=z) (most:=most) (e:=e4) HBl.out (show T ≠ B by omega));have HOW5:=Qf (Y2 (a:=(some ⟨ab,0,none⟩)) (n:=N) (cap:=N) (p:=p3) (z:=z) (most:=most) (e:=e4) HOl.out (show B<B+2 by omega));have HKW5:=Qf (HKl.out.setS B (.inl rfl) (some ⟨ab,0,none⟩) N N p3 z most e4);rw[HWW5.out] at HBW5 HOW5 HKW5;clear c0 c1 c2 c3 c4 f0 f1 f2 f3 f4;clear HSl HBl HOl HKl HWW5;obtain⟨c0,c1,c2,c3,c4,f0,f1,f2,f3,f4⟩:=HSW5.out.cells;obtain⟨D7,HD7⟩:∃D:Bool,Hid (decide ((29:Int)<(q:Int))=D):=⟨_,Qf (Eq.refl _)⟩;have hD7:=HD7.out;have hD7b:decide (29<q)=D7:=(by rw[<-hD7,decide_eq_decide];omega);obtain⟨e5,He5⟩:∃x:Nat,Hid ((if D7 then Yu e4 3 else e4)=x):=⟨_,Qf (Eq.refl _)⟩;have C7:=CW.out p3 z e4 3 D7 W5;rw[He5.out] at C7;have HC7:=Qf C7
         have HL4:Hid (LR s RES p3 z e5 (fun σ=>Yc (Yy (Yl true (q:Int)).2 σ) (tF4 most (tK L c Ld d most fu f S) n1 (Yl true (q:Int)).1))):=by
          show LR _ _ _ _ _ _;rw[<-He5.out];have h:LR s RES p3 z e4 (fun σ3=>if 29<q then .error 3 else Yc (Yy (Yl true (q:Int)).2 σ3) (tF4 most (tK L c Ld d most fu f S) n1 (Yl true (q:Int)).1)):=HL3.out
          cases hDc:D7 with
          |true=>
           rw[hDc,decide_eq_true_eq] at hD7;exact h.stop (by omega) (by decide)
          |false=>
           rw[hDc,decide_eq_false_iff_not] at hD7;exact h.pass (by omega)
         have Hz5:Hid (e5=0->p2<p3/\p3<=N/\q<=29):=Qf (fun h0=>by
          have:=He5.out
          cases hDc:D7 with
          |true=>
           rw[hDc,if_pos rfl] at this;unfold Yu at this;split at this<;>omega
          |false=>
           rw[hDc,if_neg (by decide)] at this;rw[hDc,decide_eq_false_iff_not] at hD7;have:=Hz3.out (by omega)
           omega)
         clear C7 HL3 He5;go_wp2_with fail;refine HC7.out.mono ?_;rintro r we ⟨rfl,hb4⟩;have HSm:=Qf (HSW5.out.below hb4);have HBm:=Qf (HBW5.out.below hb4 HBW5.out.lt);have HOm:=Qf (HOW5.out.below hb4 (Qa _));have HKm:=Qf (HKW5.out.below hb4);clear HSW5 HBW5 HOW5 HKW5;clear c0 c1 c2 c3 c4 f0 f1 f2 f3 f4;obtain⟨c0,c1,c2,c3,c4,f0,f1,f2,f3,f4⟩:=HSm.out.cells;clear HC7 hb4 hD7 hD7b HD7 Hz3;go_upto_region 23 with(fail);change Code.wp _ _ _ _ (setS we B (some ⟨ab,0,none⟩) N N p3 z most e5);have HSW7:=Qf (HSm.out.set_ p3 z most e5);obtain⟨W7,HWW7⟩:=Qi (setS we B (some ⟨ab,0,none⟩) N N p3 z most e5);rw[HWW7.out] at HSW7 ⊢;have HBW7:=Qf (YX (a:=(some ⟨ab,0,none⟩)) (n:=N) (cap:=N) (p:=p3) (z:=z) (most:=most) (e:=e5) HBm.out (show T ≠ B by omega));have HOW7:=Qf (Y2 (a:=(some ⟨ab,0,none⟩)) (n:=N) (cap:=N) (p:=p3) (z:=z) (most:=most) (e:=e5) HOm.out (show B<B+2 by omega));have HKW7:=Qf (HKm.out.setS B (.inl rfl) (some ⟨ab,0,none⟩) N N p3 z most e5);rw[HWW7.out] at HBW7 HOW7 HKW7;clear c0 c1 c2 c3 c4 f0 f1 f2 f3 f4;clear HSm HBm HOm HKm HWW7;obtain⟨c0,c1,c2,c3,c4,f0,f1,f2,f3,f4⟩:=HSW7.out.cells;by_cases he5:e5=0
         . subst he5
           obtain⟨hpp3,hpN3,hq29⟩:=Hz5.out rfl;have hf1:=Ydf q (by omega)
           have hf2:(Yl true (q:Int)).1<=30000/\(Yl true (q:Int)).2<=13:=by
            have key:∀i:Nat,i<=29->(Yl true (i:Int)).1<=30000/\(Yl true (i:Int)).2<=13:=(by decide);exact key q hq29
           obtain⟨fq,Hfq⟩:=Qi ((Yl true (q:Int)).1);obtain⟨K2,HK2⟩:=Qi ((Yl true (q:Int)).2);rw[Hfq.out,HK2.out] at HL4 hf2;rw[Hfq.out] at hf1
           have HX2:Hid (∀W,Kp B G0 w6 W->W.cell? ⟨gd,q,none⟩=some (.int .i64 (K2:Int))/\W.cell? ⟨gc,q,none⟩=some (.int .i64 (fq:Int))):=Qf (fun W hW=>by
            obtain⟨b1,o1,ee1,_,x1⟩:=(hW.irow HD6s.out (by omega) (by omega) (by omega)).get q (by omega);obtain⟨b2,o2,ee2,_,x2⟩:=(hW.irow HC6s.out (by omega) (by omega) (by omega)).get q (by omega);injection ee1 with ee1;injection ee1 with ee1 oo1;injection ee2 with ee2;injection ee2 with ee2 oo2;subst ee1 oo1 ee2 oo2;rw[Nat.zero_add,HK2.out] at x1;rw[Nat.zero_add,Hfq.out] at x2
            exact⟨x1,x2⟩)
           clear Hz5;go_upto_region 25 with(fail)
           go_cut [17] from 46 to 151 (fun m_ wx=>∃(p4 g e6:Nat),m_=.int .i64 (g:Int)/\p3<=p4/\p4<=p3+16/\g<=8191/\Hid (LR s RES p4 z e6 (tF4 most (tK L c Ld d most fu f S) n1 fq g))/\Hid (SAt w wx B (some ⟨ab,0,none⟩) N N p4 z most e6)/\Hid (Blk wx T 107 #[.int .u8 (y:Int),.int .i64 0,.int .i64 0])/\Hid (OwnK 107 wx (B+2) u12 S)/\Hid (Kp B G0 w6 wx))
           case first=>
            have HSd:=Qf HSW7.out.drew;have xb:W7.drew.cell? ⟨gd,q,none⟩=some (.int .i64 (K2:Int)):=(HX2.out W7 HKW7.out).1;have hq30:q<30:=(by omega);have hq30I:(q:Int)<30:=(by omega);have hbr:BRow W7.drew (some ⟨ab,0,none⟩) N (num s):=HBr.out.below HSd.out.2.2.1 (Qa _)
            go_region_with (first
             |(go_at_call 79;refine(CN.out K2 (by omega) p3 z 0 (by omega) _ _ HL4.out hbr).mono ?_;rintro r w2 ⟨p4,g,e6,rfl,HL5,hv2,hp4,hp4',hz2,hb2⟩;have HS2:=Qf (HSd.out.below hb2);obtain⟨k0,k1_,k2_,k3,k4,h0,h1,h2,h3,h4⟩:=HS2.out.cells))
            all_goals
             go_wp2_with fail;go_meet
             exact⟨p4,g,e6,rfl,hp4,by omega,by
              have h2:2^K2<=2^13:=Nat.pow_le_pow_right (by decide) hf2.2;have h3:(2:Nat)^13=8192:=by decide
              omega,HL5,Qf (HS2.out.set_ p4 z most e6),Qf (YX (HBW7.out.drew.below hb2 HBW7.out.lt) (show T ≠ B by omega)),Qf (Y2 (OwnK.below (show OwnK 107 W7.drew (B+2) u12 S from HOW7.out) hb2 (Qa _)) (show B<B+2 by omega)),Qf (Kp.setS (Kp.below (show Kp B G0 w6 W7.drew from⟨HKW7.out.size,HKW7.out.blk⟩) hb2) B (.inl rfl) (some ⟨ab,0,none⟩) N N p4 z most e6)⟩
           case rest=>
           obtain⟨p4,g,e6,rfl,hp4,hp4',hg8191,HL5,HSn,HBn,HOn,HKn⟩:=hcut;clear c0 c1 c2 c3 c4 f0 f1 f2 f3 f4;clear HSW7 HBW7 HOW7 HKW7 HL4;obtain⟨c0,c1,c2,c3,c4,f0,f1,f2,f3,f4⟩:=HSn.out.cells;obtain⟨-,xc⟩:=HX2.out _ HKn.out;obtain⟨dd,Hdd⟩:=Qi (fq+g)
           have hddI:(fq:Int)+(g:Int)=(dd:Int):=by have:=Hdd.out;omega
           have hddl:dd<=40000:=by have:=Hdd.out;omega
           have r0:=HBn.out.cell 0;have r1:=HBn.out.cell 1;have r2:=HBn.out.cell 2;have s0:=HBn.out.frozen 0;have s1:=HBn.out.frozen 1;have s2:=HBn.out.frozen 2;simp at r0 r1 r2;clear c0 c1 c2 c3 c4 f0 f1 f2 f3 f4;have HSo:=Qf (((HSn.out.far (g:=T) hTB.1 0 (.int .u8 0)).far (g:=T) hTB.1 1 (.int .i64 (n1:Int))).far (g:=T) hTB.1 2 (.int .i64 (dd:Int)))
           have HBo:Hid (Blk (((wc.setCell ⟨T,0,none⟩ (.int .u8 0)).setCell ⟨T,1,none⟩ (.int .i64 (n1:Int))).setCell ⟨T,2,none⟩ (.int .i64 (dd:Int))) T 107 #[.int .u8 0,.int .i64 (n1:Int),.int .i64 (dd:Int)]):=by
            have h:=((HBn.out.set_ 0 (.int .u8 0)).set_ 1 (.int .i64 (n1:Int))).set_ 2 (.int .i64 (dd:Int));show Blk _ _ _ _
            simpa using h
           have HOo:=Qf (UP (UP (UP HOn.out HnT.out 0 (.int .u8 0)) HnT.out 1 (.int .i64 (n1:Int))) HnT.out 2 (.int .i64 (dd:Int)));have HKo:=Qf (((HKn.out.far (g:=T) (.inr (.inr (.inr hTB.2))) 0 (.int .u8 0)).far (g:=T) (.inr (.inr (.inr hTB.2))) 1 (.int .i64 (n1:Int))).far (g:=T) (.inr (.inr (.inr hTB.2))) 2 (.int .i64 (dd:Int)));clear HSn HBn HOn HKn;go_upto_region 27 with(fail);obtain⟨W8,HW8⟩:=Qi (((wc.setCell ⟨T,0,none⟩ (.int .u8 0)).setCell ⟨T,1,none⟩ (.int .i64 (n1:Int))).setCell ⟨T,2,none⟩ (.int .i64 (dd:Int)));rw[HW8.out] at HSo HBo HOo HKo ⊢;clear HW8 r0 r1 r2 s0 s1 s2 xc;obtain⟨c0,c1,c2,c3,c4,f0,f1,f2,f3,f4⟩:=HSo.out.cells;have r2:=HBo.out.cell 2;simp at r2;obtain⟨D8,HD8⟩:∃D:Bool,Hid (decide ((z:Int)<(dd:Int))=D):=⟨_,Qf (Eq.refl _)⟩;have hD8:=HD8.out;have hD8b:decide (z<dd)=D8:=(by rw[<-hD8,decide_eq_decide];omega);go_wp2_with fail;obtain⟨e7,He7⟩:∃x:Nat,Hid ((if D8 then Yu e6 3 else e6)=x):=⟨_,Qf (Eq.refl _)⟩;have C8:=CW.out p4 z e6 3 D8 W8;rw[He7.out] at C8;have HC8:=Qf C8
           have HL6:Hid (LR s RES p4 z e7 (fun σ=>Yc (VY most n1 σ) fun _ σ5=>tK L c Ld d most fu f S (some ⟨UInt8.ofNat 0,(n1:Int),(dd:Int)⟩) σ5)):=by
            show LR _ _ _ _ _ _;rw[<-He7.out]
            have h:LR s RES p4 z e6 (fun σ=>if z<dd then .error 3 else Yc (VY most n1 σ) fun _ σ5=>tK L c Ld d most fu f S (some ⟨UInt8.ofNat 0,(n1:Int),(dd:Int)⟩) σ5):=HL5.out.congr (by
             unfold tF4;rw[Hdd.out]
             rfl)
            cases hDc:D8 with
            |true=>
             rw[hDc,decide_eq_true_eq] at hD8;exact h.stop (by omega) (by decide)
            |false=>
             rw[hDc,decide_eq_false_iff_not] at hD8;exact h.pass (by omega)
           clear C8 HL5 He7;refine HC8.out.mono ?_;rintro r wf ⟨rfl,hb5⟩;have HSp':=Qf (HSo.out.below hb5);have HBp':=Qf (HBo.out.below hb5 HBo.out.lt);have HOp':=Qf (HOo.out.below hb5 (Qa _));have HKp':=Qf (HKo.out.below hb5);clear HSo HBo HOo HKo;clear c0 c1 c2 c3 c4 f0 f1 f2 f3 f4;obtain⟨c0,c1,c2,c3,c4,f0,f1,f2,f3,f4⟩:=HSp'.out.cells;clear HC8 hb5 hD8 hD8b HD8 r2;go_upto_region 28 with(fail);change Code.wp _ _ _ _ (setS wf B (some ⟨ab,0,none⟩) N N p4 z most e7);have HSW9:=Qf (HSp'.out.set_ p4 z most e7);obtain⟨W9,HWW9⟩:=Qi (setS wf B (some ⟨ab,0,none⟩) N N p4 z most e7);rw[HWW9.out] at HSW9 ⊢;have HBW9:=Qf (YX (a:=(some ⟨ab,0,none⟩)) (n:=N) (cap:=N) (p:=p4) (z:=z) (most:=most) (e:=e7) HBp'.out (show T ≠ B by omega));have HOW9:=Qf (Y2 (a:=(some ⟨ab,0,none⟩)) (n:=N) (cap:=N) (p:=p4) (z:=z) (most:=most) (e:=e7) HOp'.out (show B<B+2 by omega));have HKW9:=Qf (HKp'.out.setS B (.inl rfl) (some ⟨ab,0,none⟩) N N p4 z most e7);rw[HWW9.out] at HBW9 HOW9 HKW9;clear c0 c1 c2 c3 c4 f0 f1 f2 f3 f4;clear HSp' HBp' HOp' HKp' HWW9;obtain⟨c0,c1,c2,c3,c4,f0,f1,f2,f3,f4⟩:=HSW9.out.cells;obtain⟨z2,Hzz⟩:=Qi (z+n1)
           have hz2I:(z:Int)+(n1:Int)=(z2:Int):=by have:=Hzz.out;omega
           have hz2l:z2<=200000:=by have:=Hzz.out;omega
           go_upto_region 29 with(fail);have HSq:=Qf (HSW9.out.set2 z2);have HBq:=Qf (HBW9.out.far (p:=⟨B,2,none⟩) (show T ≠ B by omega) (.int .i64 (z2:Int)));have HOq:=Qf (UP HOW9.out (g:=B) (fun k hk=>by have:=(World.ownsRow.lt HOW9.out k hk).1;omega) 2 (.int .i64 (z2:Int)));have HKq:=Qf (HKW9.out.far (g:=B) (.inl rfl) 2 (.int .i64 (z2:Int)));obtain⟨W10,HW10⟩:=Qi (W9.setCell ⟨B,2,none⟩ (.int .i64 (z2:Int)));rw[HW10.out] at HSq HBq HOq HKq ⊢;clear c0 c1 c2 c3 c4 f0 f1 f2 f3 f4;clear HW10 HSW9 HBW9 HOW9 HKW9;obtain⟨c0,c1,c2,c3,c4,f0,f1,f2,f3,f4⟩:=HSq.out.cells;obtain⟨D9,HD9⟩:∃D:Bool,Hid (decide ((most:Int)<(z2:Int))=D):=⟨_,Qf (Eq.refl _)⟩;have hD9:=HD9.out;have hD9b:decide (most<z2)=D9:=(by rw[<-hD9,decide_eq_decide];omega);obtain⟨e8,He8⟩:∃x:Nat,Hid ((if D9 then Yu e7 2 else e7)=x):=⟨_,Qf (Eq.refl _)⟩;have C9:=CW.out p4 z2 e7 2 D9 W10;rw[He8.out] at C9;have HC9:=Qf C9
           have HLn:Hid (LR s RES p4 z2 e8 (tK L c Ld d most fu f S (some ⟨UInt8.ofNat 0,(n1:Int),(dd:Int)⟩))):=by
            have h:=HL6.out.growE (D:=D9) (by rw[<-hD9,decide_eq_true_eq];have:=Hzz.out;omega);rw[He8.out,Hzz.out] at h;exact h
           have HzT:Hid (e8=0->z2<=most):=Qf (fun h0=>by
            have:=He8.out
            cases hDc:D9 with
            |true=>
             rw[hDc,if_pos rfl] at this;unfold Yu at this;split at this<;>omega
            |false=>
             rw[hDc,decide_eq_false_iff_not] at hD9
             omega)
           clear C9 HL6 He8;go_wp2_with fail;refine HC9.out.mono ?_;rintro r wg ⟨rfl,hb6⟩;have HSr':=Qf (HSq.out.below hb6);have HBr':=Qf (HBq.out.below hb6 HBq.out.lt);have HOr':=Qf (HOq.out.below hb6 (Qa _));have HKr':=Qf (HKq.out.below hb6);clear HSq HBq HOq HKq;clear c0 c1 c2 c3 c4 f0 f1 f2 f3 f4;obtain⟨c0,c1,c2,c3,c4,f0,f1,f2,f3,f4⟩:=HSr'.out.cells;clear HC9 hb6 hD9 hD9b HD9;go_upto_region 30 with(fail);change Code.wp _ _ _ _ (setS wg B (some ⟨ab,0,none⟩) N N p4 z2 most e8);have HSW4:=Qf (HSr'.out.set_ p4 z2 most e8);obtain⟨W4,HWW4⟩:=Qi (setS wg B (some ⟨ab,0,none⟩) N N p4 z2 most e8);rw[HWW4.out] at HSW4 ⊢;have HBW4:=Qf (YX (a:=(some ⟨ab,0,none⟩)) (n:=N) (cap:=N) (p:=p4) (z:=z2) (most:=most) (e:=e8) HBr'.out (show T ≠ B by omega));have HOW4:=Qf (Y2 (a:=(some ⟨ab,0,none⟩)) (n:=N) (cap:=N) (p:=p4) (z:=z2) (most:=most) (e:=e8) HOr'.out (show B<B+2 by omega));have HKW4:=Qf (HKr'.out.setS B (.inl rfl) (some ⟨ab,0,none⟩) N N p4 z2 most e8);rw[HWW4.out] at HBW4 HOW4 HKW4;clear c0 c1 c2 c3 c4 f0 f1 f2 f3 f4;clear HSr' HBr' HOr' HKr' HWW4;have hzB:z2<=most+1000:=(by rw[<-Hzz.out];exact Nat.add_le_add hzm0 (Qe hn1l (by decide)));have hppT:p<p4:=Qb hpp (Qe hp2 (Qe (Nat.le_of_lt hpp3) hp4));have hpNT:p4<=N+100:=Qe hp4' (Qe (Nat.add_le_add_right hpN3 16) (Nat.add_le_add_left (by decide) N));have HB4:=HBW4;have HO4:=HOW4;have HK4:=HKW4;clear HBW4 HOW4 HKW4 hp1 hp1' hp2 hp2' hp3 hp3' hp4 hp4' hb31 hg8191 hn3 hn258 hK5 hf1 hf2 hddl h285 hi28 hq29 hpp3 hpN3 hpN1 hpp hvc hyl hz2l hddI hn1I hiI hz2I;have t0:=HB4.out.cell 0;have t1:=HB4.out.cell 1;have t2:=HB4.out.cell 2;simp at t0 t1 t2;have hos:=HO4.out
           have hbsw:B+2<=W4.heap.size:=by have:=HSW4.out.2.1.lt;omega
           go_wp2_with (first
            |(at_builtin;go_must (refine Yd W4 rfl (.tmp 148) (.tmp 150) rfl Tryz.underlying103 Yc6 rfl (by decide) (B+2) u12 S.length (YU S) [.int .u8 (0:Int),.int .i64 n1,.int .i64 dd] hos rfl ?_ rfl rfl rfl ?_ ?_ hbsw ?_;(intro u hu;simp at hu;rcases hu with rfl|rfl|rfl<;>rfl);(unfold maxLen;omega);omega;intro v7 w7 hown7 hg7 hn7;have HO7:=Qf hown7;have HG7:=Qf hg7;have HN7:=Qf hn7;clear hown7 hg7 hn7))
            |fail)
           have HS7:=Qf (HSW4.out.grown HG7.out (fun g hg=>by have:=(World.ownsRow.lt hos g hg).1;omega));have HT7:Hid (TLr L c Ld d most s RES f p4 z2 e8 (S++[⟨UInt8.ofNat 0,n1,dd⟩])):=TLr.next HLn.out Hfu.out (fun _=>hppT)
           have HO7b:Hid (OwnK 107 w7 (B+2) v7 (S++[⟨UInt8.ofNat 0,n1,dd⟩])):=Qf (OwnK.snoc (t:=⟨UInt8.ofNat 0,n1,dd⟩) (by
            have e:(UInt8.ofNat 0).toNat=0:=by first|rfl|(rw[UInt8.toNat_ofNat'];omega)
            show w7.ownsRow _ _ _ _ _ (YU S++[.int .u8 ((UInt8.ofNat 0).toNat:Int),.int .i64 n1,.int .i64 dd]);rw[e]
            exact HO7.out))
           have HK7:=Qf (HK4.out.grown HG7.out HV.out)
           have HV7:Hid (∀g,v7.ownBlock=some g->g=G0\/w6.heap.size<=g):=Qf (fun g hg=>by
            by_cases h1:g<W4.heap.size
            . by_cases h2:u12.ownBlock=some g
              . exact HV.out g h2
              exact absurd hg (HN7.out g h1 h2)
            have:=HK4.out.size
            exact .inr (by omega))
           have cm4:Ym w7 ⟨B,4,none⟩=e8:=Yf HS7.out.cells.2.2.2.2.1;have cm1:Ym w7 ⟨B,1,none⟩=p4:=Yf HS7.out.cells.2.1;have Hdm4:=Qf cm4;have Hdm1:=Qf cm1;clear cm4 cm1 hos hbsw HO7 HG7 HN7 HSW4 HO4 HK4 HB4 t0 t1 t2;go_roundw
           case rel=>exact⟨p4,z2,e8,S++[⟨UInt8.ofNat 0,n1,dd⟩],by omega,by omega,(fun h0=>by rcases HLn.out with⟨_,h,_⟩|⟨h,_⟩;(have:=HN.out;omega);exact absurd h0 h),hzB,HzT.out,(by rw[List.length_append];show S.length+1<=_;omega),(fun _=>by rw[List.length_append];show S.length+1<=_;omega),HS7,HT7,HO7b,HV7,HK7⟩
           rw[Hdm4.out,Hdm1.out,Hcm4.out,Hcm1.out,if_pos rfl];split<;>omega
         have de5:((e5:Int)==0)=false:=(by simp;omega);have de5b:((e5:Int)!=0)=true:=(by simp;omega);have HL9:Hid (LR s RES p3 z e5 (f S)):=HL4.out.moved he5;have heX:e5 ≠ 0:=he5;clear HL4 he5 Hz5;obtain⟨d0,d1,d2,d3,d4,g0,g1,g2,g3,g4⟩:=HSW7.out.res;go_wp2_with fail
         (try simp only[Exit.inBlock,Exit.then])
         refine bodyPost_ret (Y8 rfl rfl (HSW7.out.ret _ _ _ p3 z most e5).1) rfl ?_;exact⟨p3,z,e5,(S),_,rfl,HL9,Qf (Kh (Y2 (B:=B+1) HOW7.out (Nat.lt_succ_self _)) (by omega)),by omega,by omega,by rw[Hq0.out];omega,by first|(intro _;exact hzm0)|(intro h0;exact absurd h0 (by assumption)),(HSW7.out.ret _ _ _ p3 z most e5).2⟩
       have de1:((e2:Int)==0)=false:=(by simp;omega);have de1b:((e2:Int)!=0)=true:=by simp;omega
       have h3:285<v1/\e2=3:=by
        have:=He2.out
        cases hDc:D6 with
        |true=>rw[hDc,decide_eq_true_eq] at hD6;rw[hDc] at this;exact⟨by omega,this.symm⟩
        |false=>rw[hDc] at this;exact absurd this.symm hee
       have HL9:Hid (LR s RES p1 z e2 (f S)):=by
        have h:=HL1.out.ok.2;refine .inr ⟨hee,?_⟩;rw[<-h];unfold tF1;rw[if_neg h256,if_neg hlt,if_pos h3.1,h3.2]
       have heX:e2 ≠ 0:=hee;clear HL1 hee h3;obtain⟨d0,d1,d2,d3,d4,g0,g1,g2,g3,g4⟩:=HSW3.out.res;go_wp2_with fail
       (try simp only[Exit.inBlock,Exit.then])
       refine bodyPost_ret (Y8 rfl rfl (HSW3.out.ret _ _ _ p1 z most e2).1) rfl ?_;exact⟨p1,z,e2,(S),_,rfl,HL9,Qf (Kh (Y2 (B:=B+1) HOW3.out (Nat.lt_succ_self _)) (by omega)),by omega,by omega,by rw[Hq0.out];omega,by first|(intro _;exact hzm0)|(intro h0;exact absurd h0 (by assumption)),(HSW3.out.ret _ _ _ p1 z most e2).2⟩
     have de1:((e1:Int)==0)=false:=(by simp;omega);have de1b:((e1:Int)!=0)=true:=(by simp;omega);have HL9:Hid (LR s RES p1 z e1 (f S)):=HL1.out.moved he1;have heX:e1 ≠ 0:=he1;clear HL1 he1;obtain⟨d0,d1,d2,d3,d4,g0,g1,g2,g3,g4⟩:=HSW1.out.res;go_wp2_with fail
     (try simp only[Exit.inBlock,Exit.then])
     refine bodyPost_ret (Y8 rfl rfl (HSW1.out.ret _ _ _ p1 z most e1).1) rfl ?_;exact⟨p1,z,e1,(S),_,rfl,HL9,Qf (Kh (Y2 (B:=B+1) HOW1.out (Nat.lt_succ_self _)) (by omega)),by omega,by omega,by rw[Hq0.out];omega,by first|(intro _;exact hzm0)|(intro h0;exact absurd h0 (by assumption)),(HSW1.out.ret _ _ _ p1 z most e1).2⟩
   have de:((e:Int)==0)=false:=by simp;omega
   have HL9:Hid (LR s RES p z e (f S)):=by
    rcases HT.out with⟨h0,_⟩|h
    . exact absurd h0 he
    exact .inr h
   have heX:e ≠ 0:=he;clear HT he;obtain⟨d0,d1,d2,d3,d4,g0,g1,g2,g3,g4⟩:=HS.out.res;go_wp2_with fail
   (try simp only[Exit.inBlock,Exit.then])
   refine bodyPost_ret (Y8 rfl rfl (HS.out.ret _ _ _ p z most e).1) rfl ?_;exact⟨p,z,e,S,_,rfl,HL9,Qf (Kh (Y2 (B:=B+1) HO.out (Nat.lt_succ_self _)) (by omega)),by omega,by omega,by rw[Hq0.out];omega,fun h0=>absurd h0 heX,(HS.out.ret _ _ _ p z most e).2⟩
 have de2:((e2:Int)==0)=false:=by simp;omega
 have de2b:((e2:Int)!=0)=true:=by simp;omega
 have HL5:Hid (LR s RES p z e2 (f [])):=HL2.out.moved he2;have heX:e2 ≠ 0:=he2;clear HL2 he2;obtain⟨d0,d1,d2,d3,d4,g0,g1,g2,g3,g4⟩:=HS4.out.res;go_wp2_with fail
 (try simp only[Exit.inBlock,Exit.then])
 refine bodyPost_ret (Y8 rfl rfl (HS4.out.ret _ _ _ p z most e2).1) rfl ?_;exact⟨p,z,e2,[],_,rfl,HL5,Qf (Kh (Y2 (B:=B+1) HO4.out (Nat.lt_succ_self _)) (by omega)),by omega,by omega,Qa _,fun h0=>absurd h0 heX,(HS4.out.ret _ _ _ p z most e2).2⟩
end Go.Proofs.YthehocmfpoglgaaGreat
