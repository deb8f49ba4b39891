/- Texts joined: StepD DynP SortP SortW SortB PmP PmQ. Conditions: each theorem says its own. -/
import Derived.Deep.RegionHeld3
import Derived.Test.YthehocmfpoglgaaGreatJcephoj
import Derived.Test.YthehocmfpoglgaaGreatJfahffd
import Derived.Test.YthehocmfpoglgaaGreatJikjhbb
namespace Go.Proofs.YthehocmfpoglgaaGreat
set_option maxRecDepth 100000
open Go.RowKit
theorem YlD (x:Int):∀(M:List Int) (j:Nat),j<(M.takeWhile fun y=>y==x).length->M.getD j 0=x/\j<M.length:=by
 intro M
 induction M with
 |nil=>intro j h;simp at h
 |cons y r ih=>
  intro j h;by_cases e:(y==x)=true
  . rw[List.takeWhile_cons,if_pos e,List.length_cons] at h
    cases j with
    |zero=>exact⟨by simpa using e,by simp⟩
    |succ j=>
     obtain⟨a,b⟩:=ih j (by omega);exact⟨by simpa using a,by simpa using b⟩
  rw[List.takeWhile_cons,if_neg e] at h;simp at h
theorem YeF (L:List Int) (i j:Nat) (h:j<runN L i):ln L (i+j)=ln L i/\i+j<L.length:=by
 obtain⟨a,b⟩:=YlD (ln L i) (L.drop i) j h;rw[List.length_drop] at b;refine⟨?_,by omega⟩;rw[<-a];simp[ln,List.getD]
theorem YlQ (L:List Int) (i:Nat) (h:i<L.length):1<=runN L i:=by
 unfold runN;rw[List.drop_eq_getElem_cons h];have:(L[i]==ln L i)=true:=by simp[ln,List.getD,h]
 rw[List.takeWhile_cons,if_pos this];simp
def VW (K:Nat->Nat) (t:Stp):List (Nat × Nat):=
 symE K 19 t.sym.toNat::(if t.sym=16 then [(t.more.toNat,2)] else if t.sym=17 then [(t.more.toNat,3)] else if t.sym=18 then [(t.more.toNat,7)] else [])
def nL (L:List Int):List Nat:=L.map Int.toNat
theorem JF (L:List Int):(nL L).length=L.length:=by simp[nL]
theorem Yim (L:List Int) (i:Nat) (h:i<L.length):(nL L)[i]'(by rw[JF];exact h)=(ln L i).toNat:=by simp[nL,ln,List.getD,h]
theorem Ymg (L:List Int) (i n:Nat) (h:i+n<=L.length) (hr:∀j,j<n->ln L (i+j)=ln L i):(nL L).take (i+n)=(nL L).take i++List.replicate n (ln L i).toNat:=by
 induction n with
 |zero=>simp
 |succ n ih=>
  rw[<-Nat.add_assoc,List.take_succ_eq_append_getElem (by rw[JF];omega),ih (by omega) (fun j hj=>hr j (by omega)),Yim L (i+n) (by omega),hr n (by omega),List.replicate_succ',List.append_assoc]
theorem YlN (L:List Int) (hL:∀i,0<=ln L i/\ln L i<=15) {K:Nat->Nat} (hK:∀i,i<19->K i<=15) (hp:parts K 19<=32768) (i:Nat) (hi:i<L.length) (hu:0<K (Yz L i).1.sym.toNat) (l:List (Nat × Nat)) (Y m out:Nat) :
 Vv K (rd (VW K (Yz L i).1++l) Y m out) ((nL L).take i)=.ok ((nL L).take (i+(Yz L i).2),rd l Y m out)/\i+(Yz L i).2<=L.length:=by
 have hrp:=YlQ L i hi;have hend:=(YeF L i (runN L i-1) (by omega)).2;obtain⟨b0,b15⟩:=hL i;have key:∀n,n<=runN L i->(nL L).take (i+n)=(nL L).take i++List.replicate n (ln L i).toNat:=fun n hn=>Ymg L i n (by omega) fun j hj=>(YeF L i j (by omega)).1;unfold Yz at hu ⊢;by_cases h18:ln L i=0/\11<=runN L i
 . rw[if_pos h18] at hu ⊢
   obtain⟨n,hn⟩:∃n,min (runN L i) 138=n:=⟨_,rfl⟩;simp only[hn] at hu ⊢;refine⟨?_,by omega⟩;have e:VW K ⟨18,(n:Int)-11⟩=[symE K 19 18,(((n:Int)-11).toNat,7)]:=rfl;rw[e,key n (by omega),h18.1];unfold Vv;show Yc (symM K 19 (rd (symE K 19 18::(((n:Int)-11).toNat,7)::l) Y m out)) _=_;have hu':0<K 18:=hu;rw[Jy hK hp (by decide) hu',Yj,if_neg (by decide),if_neg (by decide),if_pos rfl,VF (by omega),Yj,show 11+((n:Int)-11).toNat=n by omega];rfl
 rw[if_neg h18] at hu ⊢;by_cases h17:ln L i=0/\3<=runN L i
 . rw[if_pos h17] at hu ⊢
   obtain⟨n,hn⟩:∃n,min (runN L i) 10=n:=⟨_,rfl⟩;simp only[hn] at hu ⊢;refine⟨?_,by omega⟩;have e:VW K ⟨17,(n:Int)-3⟩=[symE K 19 17,(((n:Int)-3).toNat,3)]:=rfl;rw[e,key n (by omega),h17.1];unfold Vv;show Yc (symM K 19 (rd (symE K 19 17::(((n:Int)-3).toNat,3)::l) Y m out)) _=_;have hu':0<K 17:=hu;rw[Jy hK hp (by decide) hu',Yj,if_neg (by decide),if_pos rfl,VF (by omega),Yj,show 3+((n:Int)-3).toNat=n by omega];rfl
 rw[if_neg h17] at hu ⊢;by_cases h16:0<i/\ln L i=ln L (i-1)/\3<=runN L i
 . rw[if_pos h16] at hu ⊢
   obtain⟨n,hn⟩:∃n,min (runN L i) 6=n:=⟨_,rfl⟩;simp only[hn] at hu ⊢;refine⟨?_,by omega⟩;have e:VW K ⟨16,(n:Int)-3⟩=[symE K 19 16,(((n:Int)-3).toNat,2)]:=rfl
   have htl:(nL L).take i=(nL L).take (i-1)++[(ln L i).toNat]:=by
    have h1:i-1+1=i:=(by omega);have h2:=List.take_succ_eq_append_getElem (l:=nL L) (i:=i-1) (by rw[JF];omega);rw[h1,Yim L (i-1) (by omega),<-h16.2.1] at h2;exact h2
   have hne:(nL L).take i ≠ []:=by rw[htl];simp
   have hlast:((nL L).take i).getLastD 0=(ln L i).toNat:=by rw[htl];simp
   rw[e,key n (by omega)];unfold Vv;show Yc (symM K 19 (rd (symE K 19 16::(((n:Int)-3).toNat,2)::l) Y m out)) _=_;have hu':0<K 16:=hu;rw[Jy hK hp (by decide) hu',Yj,if_pos rfl,if_neg hne,VF (by omega),Yj,hlast,show 3+((n:Int)-3).toNat=n by omega]
 rw[if_neg h16] at hu ⊢;refine⟨?_,by show i+1<=_;omega⟩
 have e:VW K ⟨ln L i,0⟩=[symE K 19 (ln L i).toNat]:=by
  unfold VW;simp only;rw[if_neg (by omega),if_neg (by omega),if_neg (by omega)]
 simp only at hu;rw[e,key 1 hrp];unfold Vv;show Yc (symM K 19 (rd (symE K 19 (ln L i).toNat::l) Y m out)) _=_;rw[Jy hK hp (by omega) hu,Yj,if_neg (by omega),if_neg (by omega),if_neg (by omega)];rfl
theorem YjV (L:List Int) (hL:∀i,0<=ln L i/\ln L i<=15) {K:Nat->Nat} (hK:∀i,i<19->K i<=15) (hp:parts K 19<=32768) (l:List (Nat × Nat)) (Y m out:Nat):∀(f i:Nat),i<=L.length->(Ye L i).length<f->(∀t ∈ Ye L i,0<K t.sym.toNat)->
 YL K L.length f (rd ((Ye L i).flatMap (VW K)++l) Y m out) ((nL L).take i)=.ok (nL L,rd l Y m out):=by
 intro f
 induction f with
 |zero=>intro i _ h;omega
 |succ f ih=>
  intro i hi hf hu;have hlen:((nL L).take i).length=i:=by rw[List.length_take,JF];omega
  by_cases hlt:i<L.length
  . have hst:=Xl L i hlt
    rw[hst] at hu hf ⊢;rw[List.length_cons] at hf;obtain⟨h1,h2⟩:=YlN L hL hK hp i hlt (hu _ (List.mem_cons_self ..)) ((Ye L (i+(Yz L i).2)).flatMap (VW K)++l) Y m out;have hpos:=K0 L i;rw[List.flatMap_cons,List.append_assoc];show(if ((nL L).take i).length<L.length then _ else _)=_;rw[hlen,if_pos hlt,h1,Yj];exact ih _ h2 (by omega) fun t ht=>hu t (List.mem_cons_of_mem _ ht)
  have hie:i=L.length:=by omega
  rw[VE L i hlt];show(if ((nL L).take i).length<L.length then _ else _)=_;rw[hlen,if_neg hlt,List.take_of_length_le (by rw[JF];omega)];rfl
theorem YhC (K:Nat->Nat) (T:List Stp) (h:∀t ∈ T,0<K t.sym.toNat):T.length<=encN (T.flatMap (VW K)):=by
 induction T with
 |nil=>exact Nat.zero_le _
 |cons t T ih=>
  rw[List.flatMap_cons,Y0,List.length_cons];have h1:=ih fun x hx=>h x (List.mem_cons_of_mem _ hx);have h2:=h t (List.mem_cons_self ..);have h3:K t.sym.toNat<=encN (VW K t):=by unfold VW;simp only[encN,symE];omega
  omega
theorem YkL (K:Nat->Nat) (hK:∀i,K i<=7) (l:List (Nat × Nat)) (Y mm out:Nat):∀(r:List Nat) (m:Nat->Int),Vy r m (rd (r.map (fun s=>(K s,3))++l) Y mm out)=.ok ((fun i=>if i ∈ r then (K i:Int) else m i),rd l Y mm out):=by
 intro r
 induction r with
 |nil=>
  intro m;show Except.ok (m,_)=_;have e:(fun i=>if i ∈ ([]:List Nat) then (K i:Int) else m i)=m:=by funext i;rw[if_neg (by simp)]
  rw[e];rfl
 |cons s r ih=>
  intro m;have hs:=hK s;show Yc (Yy 3 (rd ((K s,3)::(r.map (fun s=>(K s,3))++l)) Y mm out)) _=_;rw[VF (by omega),Yj,ih]
  have e:(fun i=>if i ∈ r then (K i:Int) else if i=s then ((K s:Nat):Int) else m i)=(fun i=>if i ∈ s::r then (K i:Int) else m i):=by
   funext i;by_cases h1:i ∈ r
   . rw[if_pos h1,if_pos (List.mem_cons_of_mem _ h1)]
   rw[if_neg h1];by_cases h2:i=s
   . rw[if_pos h2,if_pos (by rw[h2];exact List.mem_cons_self ..),h2]
   rw[if_neg h2,if_neg (by simp[h1,h2])]
  rw[e]
def JN (nl nd nc:Nat) (K:Nat->Nat) (L:List Int):List (Nat × Nat):=
 (nl-257,5)::(nd-1,5)::(nc-4,4)::((ordL.take nc).map (fun s=>(K s,3))++(Ye L 0).flatMap (VW K))
theorem Ynq (nl nd nc:Nat) (K:Nat->Nat) (L:List Int) (h1:257<=nl/\nl<=286) (h2:1<=nd/\nd<=30) (h3:4<=nc/\nc<=19) (hlen:L.length=nl+nd) (hK:∀i,K i<=7) (hin:∀i,K i ≠ 0->i ∈ ordL.take nc)
 (hfit:Fits (parts K 19) (YG K 19)) (hL:∀i,0<=ln L i/\ln L i<=15) (hu:∀t ∈ Ye L 0,0<K t.sym.toNat) (h256:(nL L).getD 256 0 ≠ 0) (l:List (Nat × Nat)) (Y m out:Nat) :
 dynM (rd (JN nl nd nc K L++l) Y m out)=.ok ((nL L,nl),rd l Y m out):=by
 unfold dynM JN;have e0:(nl-257,5)::(nd-1,5)::(nc-4,4)::((ordL.take nc).map (fun s=>(K s,3))++(Ye L 0).flatMap (VW K))++l=(nl-257,5)::(nd-1,5)::(nc-4,4)::((ordL.take nc).map (fun s=>(K s,3))++((Ye L 0).flatMap (VW K)++l)):=by simp
 rw[e0,VF (by omega),Yj,VF (by omega),Yj,VF (by omega),Yj,if_neg (by omega),show nc-4+4=nc by omega,YkL K hK,Yj]
 have hm:lens (fun i=>if i ∈ ordL.take nc then (K i:Int) else 0)=K:=by
  funext i;show(if i ∈ ordL.take nc then (K i:Int) else 0).toNat=K i;by_cases h:i ∈ ordL.take nc
  . rw[if_pos h];rfl
  rw[if_neg h];by_cases hz:K i=0
  . rw[hz];rfl
  exact absurd (hin i hz) h
 have hf:fitM (fun i=>if i ∈ ordL.take nc then (K i:Int) else 0) 19 (rd ((Ye L 0).flatMap (VW K)++l) Y m out)=.ok ((),rd ((Ye L 0).flatMap (VW K)++l) Y m out):=by
  unfold fitM VN;rw[hm,if_pos hfit]
 rw[hf,Yj,hm,show nl-257+257+(nd-1+1)=L.length by omega]
 have hs:=YjV L hL (fun i _=>Qe (hK i) (by decide)) hfit.1 l Y m out ((rd ((Ye L 0).flatMap (VW K)++l) Y m out).n+1) 0 (Nat.zero_le _) (by
  rw[rd_n,Y0];have:=YhC K (Ye L 0) hu
  omega) hu
 rw[List.take_zero] at hs;rw[hs,Yj,if_neg (by rw[JF];omega),show nl-257+257=nl by omega]
noncomputable def litN (L:List Int) (nl:Nat):Nat->Nat:=lens (lenF ((nL L).take nl))
noncomputable def dstN (L:List Int) (nl:Nat):Nat->Nat:=lens (lenF ((nL L).drop nl))
theorem Ynh (L:List Int) (hL:∀i,0<=ln L i/\ln L i<=15):∀y ∈ nL L,y<=15:=by
 intro y hy;obtain⟨i,hi,rfl⟩:=List.mem_iff_getElem.1 hy;rw[Yim L i (by rw[<-JF];exact hi)];have:=hL i;omega
theorem Yml (L:List Int) (hL:∀i,0<=ln L i/\ln L i<=15) (nl:Nat):∀i,litN L nl i<=15:=fun i=>
 Jg _ (i+1) (fun j=>YiA _ (fun y hy=>Ynh L hL y (List.mem_of_mem_take hy)) j) i (Nat.lt_succ_self i)
theorem YmJ (L:List Int) (hL:∀i,0<=ln L i/\ln L i<=15) (nl:Nat):∀i,dstN L nl i<=15:=fun i=>
 Jg _ (i+1) (fun j=>YiA _ (fun y hy=>Ynh L hL y (List.mem_of_mem_drop hy)) j) i (Nat.lt_succ_self i)
noncomputable def dynE (nl nd nc:Nat) (K:Nat->Nat) (L:List Int) (S:List Tok):List (Nat × Nat):=(1,1)::(2,2)::(JN nl nd nc K L++(VK (litN L nl) nl (dstN L nl) nd S++[symE (litN L nl) nl 256]))
theorem YkQ (nl nd nc:Nat) (K:Nat->Nat) (L:List Int) (S:List Tok) (most:Nat) (T:List UInt8) (h1:257<=nl/\nl<=286) (h2:1<=nd/\nd<=30) (h3:4<=nc/\nc<=19) (hlen:L.length=nl+nd) (hK:∀i,K i<=7) (hin:∀i,K i ≠ 0->i ∈ ordL.take nc)
 (hfit:Fits (parts K 19) (YG K 19)) (hL:∀i,0<=ln L i/\ln L i<=15) (hu:∀t ∈ Ye L 0,0<K t.sym.toNat) (h256:(nL L).getD 256 0 ≠ 0)
 (hf1:Fits (parts (litN L nl) nl) (YG (litN L nl) nl)) (hf2:Fits (parts (dstN L nl) nd) (YG (dstN L nl) nd)) (h256b:0<litN L nl 256)
 (hS:∀t ∈ S,KW (litN L nl) (dstN L nl) t/\(t.l ≠ 0->257+lsym t<nl/\dsym t<nd)) (h:texp (most:Int) [] S=(T,0)) :
 Kl (encB (dynE nl nd nc K L S)) most=.ok ([⟨2,[],S⟩],⟨0,8*((encN (dynE nl nd nc K L S)+7)/8)-encN (dynE nl nd nc K L S),T.length⟩):=by
 unfold Kl;rw[Yi0];obtain⟨m,hm⟩:∃m,8*((encN (dynE nl nd nc K L S)+7)/8)-encN (dynE nl nd nc K L S)=m:=⟨_,rfl⟩;rw[hm];have C:CodesOK (litN L nl) nl (dstN L nl) nd:=⟨fun i _=>Yml L hL nl i,fun i _=>YmJ L hL nl i,hf1.1,hf2.1,h1.1⟩;show Yc (Xx most (rd (dynE nl nd nc K L S) 0 m 0)) _=_
 have hb:Xx most (rd (dynE nl nd nc K L S) 0 m 0)=.ok ((1,⟨2,[],S⟩),rd [] 0 m (0+Vh S)):=by
  unfold Xx dynE;rw[VF (by decide),Yj,VF (by decide),Yj,if_neg (by decide),if_neg (by decide),if_pos rfl,Ynq nl nd nc K L h1 h2 h3 hlen hK hin hfit hL hu h256,Yj];have hd:(nL L).length-nl=nd:=by rw[JF];omega
  have e0:tokM (litN L nl) nl (dstN L nl) nd most ((rd (VK (litN L nl) nl (dstN L nl) nd S++[symE (litN L nl) nl 256]) 0 m 0).n+1) (rd (VK (litN L nl) nl (dstN L nl) nd S++[symE (litN L nl) nl 256]) 0 m 0) []=.ok ([]++S,rd [] 0 m (0+Vh S)):=
   Yho C h256b [] 0 m T S [] _ [] h hS (by
    rw[rd_n,Y0];have:=Ycp (litN L nl) nl (dstN L nl) nd S fun t ht=>(hS t ht).1
    omega)
  have e1:∀σ,fitM (lenF ((nL L).take nl)) nl σ=.ok ((),σ):=fun σ=>by
   unfold fitM VN;rw[if_pos (by exact hf1)]
  have e2:∀σ,fitM (lenF ((nL L).drop nl)) nd σ=.ok ((),σ):=fun σ=>by
   unfold fitM VN;rw[if_pos (by exact hf2)]
  have e3:Vc (lenF ((nL L).take nl)) nl (lenF ((nL L).drop nl)) nd most (rd (VK (litN L nl) nl (dstN L nl) nd S++[symE (litN L nl) nl 256]) 0 m 0)=.ok (S,rd [] 0 m (0+Vh S)):=by
   unfold Vc;rw[e1,Yj,e2,Yj];exact e0
  show Yc (Vc (lenF ((nL L).take nl)) nl (lenF ((nL L).drop nl)) ((nL L).length-nl) most _) _=_;rw[hd,e3,Yj]
 rw[hb,Yj]
 have e:(rd [] 0 m (0+Vh S))=⟨0,m,T.length⟩:=by
  have:=KP S [];rw[UF _ S [] T h] at this;unfold rd encV encN;rw[this];simp
 rw[e];rfl
def mrg {α:Type} (w:α->Int):List α->List α->List α
 |[],r=>r
 |a::l,[]=>a::l
 |a::l,b::r=>if w b<w a then b::mrg w (a::l) r else a::mrg w l (b::r)
termination_by l r=>l.length+r.length
section
variable {α:Type} (w:α->Int)
theorem YK (l:List α):mrg w [] l=l:=by unfold mrg;rfl
theorem YR (l:List α):mrg w l []=l:=by cases l<;>unfold mrg<;>rfl
theorem YE (a b:α) (l r:List α):mrg w (a::l) (b::r)=if w b<w a then b::mrg w (a::l) r else a::mrg w l (b::r):=by rw[mrg]
theorem Yir:∀(n:Nat) (a b c:List α),a.length+b.length+c.length<=n->mrg w (mrg w a b) c=mrg w a (mrg w b c):=by
 intro n
 induction n with
 |zero=>
  intro a b c h;have:a=[]:=List.eq_nil_of_length_eq_zero (by omega);subst this;rw[YK,YK]
 |succ n ih=>
  intro a b c h
  cases a with
  |nil=>rw[YK,YK]
  |cons x l=>
   cases b with
   |nil=>rw[YR,YK]
   |cons y r=>
    cases c with
    |nil=>rw[YR,YR]
    |cons z s=>
     simp only[List.length_cons] at h;rw[YE w x y l r,YE w y z r s];by_cases h1:w y<w x
     . rw[if_pos h1]
       by_cases h2:w z<w y
       . rw[if_pos h2,YE w y z,if_pos h2,YE w x z,if_pos (by omega)]
         have:=ih (x::l) (y::r) s (by simp only[List.length_cons];omega);rw[YE w x y l r,if_pos h1] at this;rw[this]
       rw[if_neg h2,YE w y z,if_neg h2,YE w x y,if_pos h1];rw[ih (x::l) r (z::s) (by simp only[List.length_cons];omega)]
     rw[if_neg h1];by_cases h2:w z<w y
     . rw[if_pos h2]
       by_cases h3:w z<w x
       . rw[YE w x z,if_pos h3,YE w x z,if_pos h3]
         have:=ih (x::l) (y::r) s (by simp only[List.length_cons];omega);rw[YE w x y l r,if_neg h1] at this;rw[this]
       rw[YE w x z,if_neg h3,YE w x z,if_neg h3];have:=ih l (y::r) (z::s) (by simp only[List.length_cons];omega);rw[YE w y z r s,if_pos h2] at this;rw[this]
     rw[if_neg h2,YE w x z,if_neg (by omega),YE w x y,if_neg h1];have:=ih l (y::r) (z::s) (by simp only[List.length_cons];omega);rw[YE w y z r s,if_neg h2] at this;rw[this]
theorem Yb1:∀(n:Nat) (a b:List α),a.length+b.length<=n->List.Perm (mrg w a b) (a++b):=by
 intro n
 induction n with
 |zero=>
  intro a b h;have:a=[]:=List.eq_nil_of_length_eq_zero (by omega);subst this;rw[YK];exact List.Perm.refl _
 |succ n ih=>
  intro a b h
  cases a with
  |nil=>rw[YK];exact List.Perm.refl _
  |cons x l=>
   cases b with
   |nil=>rw[YR,List.append_nil]
   |cons y r=>
    simp only[List.length_cons] at h;rw[YE];split
    . refine((ih (x::l) r (by simp only[List.length_cons];omega)).cons y).trans ?_
      exact(List.perm_middle (a:=y) (l₁:=x::l) (l₂:=r)).symm
    exact(ih l (y::r) (by simp only[List.length_cons];omega)).cons x
theorem Yip (a b:List α):(mrg w a b).length=a.length+b.length:=by
 rw[(Yb1 w _ a b (Qa _)).length_eq,List.length_append]
theorem Jf (a b:List α) (x:α):x ∈ mrg w a b ↔ x ∈ a\/x ∈ b:=by
 rw[(Yb1 w _ a b (Qa _)).mem_iff,List.mem_append]
def Srt (l:List α):Prop:=l.Pairwise fun a b=>w a<=w b
theorem Yio:∀(n:Nat) (a b:List α),a.length+b.length<=n->Srt w a->Srt w b->Srt w (mrg w a b):=by
 intro n
 induction n with
 |zero=>
  intro a b h ha hb;have:a=[]:=List.eq_nil_of_length_eq_zero (by omega);subst this;rw[YK];exact hb
 |succ n ih=>
  intro a b h ha hb
  cases a with
  |nil=>rw[YK];exact hb
  |cons x l=>
   cases b with
   |nil=>rw[YR];exact ha
   |cons y r=>
    simp only[List.length_cons] at h;have ha':=List.pairwise_cons.1 ha;have hb':=List.pairwise_cons.1 hb;rw[YE];split
    . refine List.pairwise_cons.2 ⟨fun z hz=>?_,ih _ _ (by simp only[List.length_cons];omega) ha hb'.2⟩
      rcases(Jf w _ _ z).1 hz with h1|h1
      . rcases List.mem_cons.1 h1 with rfl|h1
        . omega
        have:=ha'.1 z h1;omega
      exact hb'.1 z h1
    refine List.pairwise_cons.2 ⟨fun z hz=>?_,ih _ _ (by simp only[List.length_cons];omega) ha'.2 hb⟩;rcases(Jf w _ _ z).1 hz with h1|h1
    . exact ha'.1 z h1
    rcases List.mem_cons.1 h1 with rfl|h1
    . omega
    have:=hb'.1 z h1;omega
theorem Yap:∀(n:Nat) (l1 l2 r1 r2:List α),l1.length+r1.length<=n->(∀x ∈ l2,∀y ∈ r1,w y<w x)->(∀x ∈ l1,∀y ∈ r2,w x<=w y)->mrg w (l1++l2) (r1++r2)=mrg w l1 r1++mrg w l2 r2:=by
 intro n
 induction n with
 |zero=>
  intro l1 l2 r1 r2 h _ _;have e1:l1=[]:=List.eq_nil_of_length_eq_zero (by omega);have e2:r1=[]:=List.eq_nil_of_length_eq_zero (by omega);subst e1 e2;rw[YK];rfl
 |succ n ih=>
  intro l1 l2 r1 r2 h h1 h2
  cases l1 with
  |nil=>
   cases r1 with
   |nil=>rw[YK];rfl
   |cons y r1=>
    rw[YK,List.nil_append];have hy:∀x ∈ l2,w y<w x:=fun x hx=>h1 x hx y (List.mem_cons_self ..);have:=ih [] l2 r1 r2 (by simp only[List.length_cons,List.length_nil] at h ⊢;omega) (fun x hx z hz=>h1 x hx z (List.mem_cons_of_mem _ hz)) (fun x hx=>by cases hx);rw[YK,List.nil_append] at this
    cases l2 with
    |nil=>rw[YK,YK]
    |cons x l2=>
     rw[List.cons_append,YE,if_pos (hy x (List.mem_cons_self ..)),this];rfl
  |cons x l1=>
   cases r1 with
   |nil=>
    rw[YR,List.nil_append];have:=ih l1 l2 [] r2 (by simp only[List.length_cons,List.length_nil] at h ⊢;omega) (fun x hx z hz=>by cases hz) (fun z hz=>h2 z (List.mem_cons_of_mem _ hz));rw[YR,List.nil_append] at this
    cases r2 with
    |nil=>rw[YR,YR]
    |cons y r2=>
     have hxy:=h2 x (List.mem_cons_self ..) y (List.mem_cons_self ..);rw[List.cons_append,YE,if_neg (by omega),this];rfl
   |cons y r1=>
    simp only[List.length_cons] at h;rw[List.cons_append,List.cons_append,YE,YE];split
    . have:=ih (x::l1) l2 r1 r2 (by simp only[List.length_cons];omega) (fun x hx z hz=>h1 x hx z (List.mem_cons_of_mem _ hz)) h2
      rw[List.cons_append] at this;rw[this];rfl
    have:=ih l1 l2 (y::r1) r2 (by simp only[List.length_cons];omega) h1 (fun z hz=>h2 z (List.mem_cons_of_mem _ hz));rw[List.cons_append] at this;rw[this];rfl
def Yw (l:List α):List α:=l.foldl (fun acc x=>mrg w acc [x]) []
theorem YiI:Yw w []=[]:=rfl
theorem Vs (l:List α) (x:α):Yw w (l++[x])=mrg w (Yw w l) [x]:=by unfold Yw;rw[List.foldl_append];rfl
theorem Yc3 (a b:List α):Yw w (a++b)=mrg w (Yw w a) (Yw w b):=by
 have key:∀(n:Nat) (b:List α),b.length=n->Yw w (a++b)=mrg w (Yw w a) (Yw w b):=by
  intro n
  induction n with
  |zero=>
   intro b h;have:b=[]:=List.eq_nil_of_length_eq_zero h;subst this;rw[List.append_nil,YiI,YR]
  |succ n ih=>
   intro b h;have hne:b ≠ []:=by intro e;subst e;simp at h
   obtain⟨c,x,rfl⟩:∃c x,b=c++[x]:=⟨b.dropLast,b.getLast hne,(List.dropLast_concat_getLast hne).symm⟩;rw[List.length_append] at h;simp only[List.length_cons,List.length_nil] at h;rw[<-List.append_assoc,Vs,ih c (by omega),Vs,Yir w _ _ _ _ (Qa _)]
 exact key _ b rfl
theorem VT (l:List α):List.Perm (Yw w l) l:=by
 have key:∀(n:Nat) (b:List α),b.length=n->List.Perm (Yw w b) b:=by
  intro n
  induction n with
  |zero=>
   intro b h;have:b=[]:=List.eq_nil_of_length_eq_zero h;subst this;exact List.Perm.refl _
  |succ n ih=>
   intro b h;have hne:b ≠ []:=by intro e;subst e;simp at h
   obtain⟨c,x,rfl⟩:∃c x,b=c++[x]:=⟨b.dropLast,b.getLast hne,(List.dropLast_concat_getLast hne).symm⟩;rw[List.length_append] at h;simp only[List.length_cons,List.length_nil] at h;rw[Vs];exact(Yb1 w _ _ _ (Qa _)).trans ((ih c (by omega)).append (List.Perm.refl _))
 exact key _ l rfl
theorem KQ (l:List α):Srt w (Yw w l):=by
 have key:∀(n:Nat) (b:List α),b.length=n->Srt w (Yw w b):=by
  intro n
  induction n with
  |zero=>
   intro b h;have:b=[]:=List.eq_nil_of_length_eq_zero h;subst this;exact List.Pairwise.nil
  |succ n ih=>
   intro b h;have hne:b ≠ []:=by intro e;subst e;simp at h
   obtain⟨c,x,rfl⟩:∃c x,b=c++[x]:=⟨b.dropLast,b.getLast hne,(List.dropLast_concat_getLast hne).symm⟩;rw[List.length_append] at h;simp only[List.length_cons,List.length_nil] at h;rw[Vs];exact Yio w _ _ _ (Qa _) (ih c (by omega)) (List.pairwise_cons.2 ⟨fun z hz=>(by cases hz),List.Pairwise.nil⟩)
 exact key _ l rfl
theorem Je (l1 l2:List α) (x:α) (h1:∀y ∈ l1,w y<=w x) (h2:∀y ∈ l2,w x<w y):mrg w (l1++l2) [x]=l1++x::l2:=by
 have e:mrg w (l1++l2) ([]++[x])=mrg w l1 []++mrg w l2 [x]:=Yap w _ l1 l2 [] [x] (Qa _) (fun _ _ y hy=>by cases hy) (fun y hy z hz=>by
  rcases List.mem_cons.1 hz with rfl|hz
  . exact h1 y hy
  cases hz)
 rw[List.nil_append,YR] at e;rw[e]
 congr 1
 cases l2 with
 |nil=>rw[YK]
 |cons y r=>rw[YE,if_pos (h2 y (List.mem_cons_self ..)),YR]
theorem YfW (r1 r2:List α) (x:α) (h1:∀y ∈ r1,w y<w x) (h2:∀y ∈ r2,w x<=w y):mrg w [x] (r1++r2)=r1++x::r2:=by
 have e:mrg w ([]++[x]) (r1++r2)=mrg w [] r1++mrg w [x] r2:=Yap w _ [] [x] r1 r2 (Qa _) (fun y hy z hz=>by
  rcases List.mem_cons.1 hy with rfl|hy
  . exact h1 z hz
  cases hy) (fun _ hy=>by cases hy)
 rw[List.nil_append,YK] at e;rw[e]
 congr 1
 cases r2 with
 |nil=>rw[YR]
 |cons y r=>rw[YE,if_neg (by have:=h2 y (List.mem_cons_self ..);omega),YK]
theorem UJ:∀(l:List α),Srt w l->Yw w l=l:=by
 intro l h
 have key:∀(n:Nat) (b:List α),b.length=n->Srt w b->Yw w b=b:=by
  intro n
  induction n with
  |zero=>
   intro b h _;have:b=[]:=List.eq_nil_of_length_eq_zero h;subst this;rfl
  |succ n ih=>
   intro b h hs;have hne:b ≠ []:=by intro e;subst e;simp at h
   obtain⟨c,x,rfl⟩:∃c x,b=c++[x]:=⟨b.dropLast,b.getLast hne,(List.dropLast_concat_getLast hne).symm⟩;rw[List.length_append] at h;simp only[List.length_cons,List.length_nil] at h;have hs':=List.pairwise_append.1 hs;rw[Vs,ih c (by omega) hs'.1];have:=Je w c [] x (fun y hy=>hs'.2.2 y hy x (List.mem_cons_self ..)) (fun y hy=>by cases hy);rw[List.append_nil] at this;exact this
 exact key _ l rfl h
def seg (f:Nat->α) (a b:Nat):List α:=(List.range (b-a)).map fun k=>f (a+k)
theorem YbM (f:Nat->α) (a b:Nat):(seg f a b).length=b-a:=by simp[seg]
theorem U8 (f:Nat->α) (a b k:Nat) (h:k<b-a):(seg f a b)[k]?=some (f (a+k)):=by simp[seg,h]
theorem Vu (f:Nat->α) (a m b:Nat) (h1:a<=m) (h2:m<=b):seg f a b=seg f a m++seg f m b:=by
 unfold seg;rw[show b-a=(m-a)+(b-m) by omega,List.range_add,List.map_append,List.map_map]
 congr 1
 apply List.map_congr_left;intro k _;show f (a+(m-a+k))=f (m+k)
 congr 1
 omega
theorem Y7 (f g:Nat->α) (a b c d:Nat) (hl:b-a=d-c) (h:∀k,k<b-a->f (a+k)=g (c+k)):seg f a b=seg g c d:=by
 unfold seg;rw[<-hl];apply List.map_congr_left;intro k hk;exact h k (List.mem_range.1 hk)
theorem Kt (f:Nat->α) (a:Nat):seg f a (a+1)=[f a]:=by
 unfold seg;rw[show a+1-a=1 by omega];rfl
theorem Xg (f:Nat->α) (a b:Nat) (h:b<=a):seg f a b=[]:=by
 unfold seg;rw[show b-a=0 by omega];rfl
theorem X4 (f:Nat->α) (a b:Nat) (x:α) (h:x ∈ seg f a b):∃p,a<=p/\p<b/\x=f p:=by
 unfold seg at h;obtain⟨k,hk,rfl⟩:=List.mem_map.1 h;have:=List.mem_range.1 hk;exact⟨a+k,by omega,by omega,rfl⟩
theorem XI (f:Nat->α) (a b:Nat):Srt w (seg f a b) ↔ ∀p q,a<=p->p<q->q<b->w (f p)<=w (f q):=by
 constructor
 . intro h p q h1 h2 h3
   have e1:=U8 f a b (p-a) (by omega);have e2:=U8 f a b (q-a) (by omega);rw[show a+(p-a)=p by omega] at e1;rw[show a+(q-a)=q by omega] at e2;have hl:=YbM f a b;have:=(List.pairwise_iff_getElem.1 h) (p-a) (q-a) (by omega) (by omega) (by omega);rw[List.getElem?_eq_getElem (by omega)] at e1 e2;injection e1 with e1;injection e2 with e2;rw[e1,e2] at this;exact this
 intro h;refine List.pairwise_iff_getElem.2 fun i j hi hj hij=>?_;have hl:=YbM f a b;have e1:=U8 f a b i (by omega);have e2:=U8 f a b j (by omega);rw[List.getElem?_eq_getElem (by omega)] at e1 e2;injection e1 with e1;injection e2 with e2;rw[e1,e2];exact h _ _ (by omega) (by omega) (by omega)
def sw (f:Nat->α) (i j:Nat):Nat->α:=fun p=>if p=i then f j else if p=j then f i else f p
def mvL (f:Nat->α) (i j:Nat):Nat->α:=fun p=>if p=j then f i else if j<p/\p<=i then f (p-1) else f p
theorem YeX (f:Nat->α) (i:Nat):mvL f i i=f:=by
 funext p;unfold mvL
 (repeat' split)<;>first|(exfalso;omega)|rfl|(congr 1;omega)|(congr 1)
theorem Ylk (f:Nat->α) (i j:Nat) (h:j<i):sw (mvL f i (j+1)) (j+1) j=mvL f i j:=by
 funext p;unfold sw mvL
 (repeat' split)<;>first|(exfalso;omega)|rfl|(congr 1;omega)|(congr 1)
def mvR (f:Nat->α) (i j:Nat):Nat->α:=fun p=>if p=j then f i else if i<=p/\p<j then f (p+1) else f p
theorem Ykt (f:Nat->α) (i:Nat):mvR f i i=f:=by
 funext p;unfold mvR
 (repeat' split)<;>first|(exfalso;omega)|rfl|(congr 1;omega)|(congr 1)
theorem Yni (f:Nat->α) (i j:Nat) (h:i<=j):sw (mvR f i j) j (j+1)=mvR f i (j+1):=by
 funext p;unfold sw mvR
 (repeat' split)<;>first|(exfalso;omega)|rfl|(congr 1;omega)|(congr 1)
def rot (f:Nat->α) (a m b:Nat):Nat->α:=fun p=>if a<=p/\p<a+(b-m) then f (p+(m-a)) else if a+(b-m)<=p/\p<b then f (p-(b-m)) else f p
def swN (f:Nat->α) (i j n:Nat):Nat->α:=fun p=>if i<=p/\p<i+n then f (p-i+j) else if j<=p/\p<j+n then f (p-j+i) else f p
theorem YjR (f:Nat->α) (i j:Nat):swN f i j 0=f:=by
 funext p;unfold swN
 (repeat' split)<;>first|(exfalso;omega)|rfl|(congr 1;omega)|(congr 1)
theorem YjS (f:Nat->α) (i j n:Nat) (h:i+n<j):sw (swN f i j n) (i+n) (j+n)=swN f i j (n+1):=by
 funext p;unfold sw swN
 (repeat' split)<;>first|(exfalso;omega)|rfl|(congr 1;omega)|(congr 1)
theorem Yj5 (f:Nat->α) (m i:Nat) (h:i<=m):swN f (m-i) m i=rot f (m-i) m (m+i):=by
 funext p;unfold swN rot
 (repeat' split)<;>first|(exfalso;omega)|rfl|(congr 1;omega)|(congr 1)
theorem Yj4 (f:Nat->α) (m i j:Nat) (h:i<=m) (hj:j<i):rot (swN f (m-i) m j) (m-(i-j)) m (m+j)=rot f (m-i) m (m+j):=by
 funext p;unfold rot swN
 (repeat' split)<;>first|(exfalso;omega)|rfl|(congr 1;omega)|(congr 1)
theorem YhM (f:Nat->α) (m i j:Nat) (h:i<=m) (hj:i<j):rot (swN f (m-i) (m+j-i) i) (m-i) m (m+(j-i))=rot f (m-i) m (m+j):=by
 funext p;unfold rot swN
 (repeat' split)<;>first|(exfalso;omega)|rfl|(congr 1;omega)|(congr 1)
end
structure Pr where
 k:Int
 a:Option Addr
 n:Nat
 c:Nat
def Pr.s (x:Pr):Value:=.slice x.a x.n x.c
def YdP (x:Nat->Pr) (i:Nat):Value:=if i%2=0 then .int .i64 (x (i/2)).k else (x (i/2)).s
def V5 (C:Nat) (x:Nat->Pr):Array Value:=Yg (2*C) (YdP x)
theorem Ykf (C:Nat) (x:Nat->Pr) (t i:Nat) (hi:i=t*2) (ht:t<C):(V5 C x)[i]?=some (.int .i64 (x t).k):=by
 subst hi;unfold V5;rw[Yp _ _ _ (by omega)];unfold YdP;rw[if_pos (by omega),show t*2/2=t by omega]
theorem Yke (C:Nat) (x:Nat->Pr) (t i:Nat) (hi:i=t*2+1) (ht:t<C):(V5 C x)[i]?=some ((x t).s):=by
 subst hi;unfold V5;rw[Yp _ _ _ (by omega)];unfold YdP;rw[if_neg (by omega),show(t*2+1)/2=t by omega]
theorem Yh3 (C:Nat) (x:Nat->Pr) (i j:Nat) (hij:i ≠ j) :
 ((((V5 C x).setIfInBounds (i*2) (.int .i64 (x j).k)).setIfInBounds (i*2+1) ((x j).s)).setIfInBounds (j*2) (.int .i64 (x i).k)).setIfInBounds (j*2+1) ((x i).s)=V5 C (sw x i j):=by
 unfold V5;rw[YA,YA,YA,YA];refine Ys _ _ _ fun p _=>?_;unfold YdP sw;by_cases h0:p%2=0
 . rw[if_neg (by omega)]
   by_cases h1:p/2=j
   . rw[if_pos (by omega),if_pos h0,if_neg (by omega),if_pos h1]
   rw[if_neg (by omega),if_neg (by omega),if_pos h0];by_cases h2:p/2=i
   . rw[if_pos (by omega),if_pos h2];first|rw[if_pos h0]|rw[if_neg h0]
   rw[if_neg (by omega),if_neg h2,if_neg h1,if_pos h0]
 by_cases h1:p/2=j
 . rw[if_pos (by omega),if_neg h0,if_neg (by omega),if_pos h1]
 rw[if_neg (by omega),if_neg (by omega),if_neg h0];by_cases h2:p/2=i
 . rw[if_pos (by omega),if_pos h2];first|rw[if_pos h0]|rw[if_neg h0]
 rw[if_neg (by omega),if_neg (by omega),if_neg h2,if_neg h1,if_neg h0]
def PB (w:World) (g C:Nat) (x:Nat->Pr):Prop:=∃R:Array Value,Blk w g 195 (V5 C x++R)
theorem XL (C:Nat) (x:Nat->Pr):(V5 C x).size=2*C:=Uu _ _
theorem Yh6 (C:Nat) (x:Nat->Pr) (R:Array Value) (i:Nat) (hi:i<2*C):(V5 C x++R)[i]?=(V5 C x)[i]?:=by
 rw[Array.getElem?_append_left (by rw[XL];exact hi)]
theorem UN (C:Nat) (A:Array Value) (hA:A.size=2*C) (R:Array Value) (i:Nat) (v:Value) (hi:i<2*C):(A++R).setIfInBounds i v=A.setIfInBounds i v++R:=
 Array.setIfInBounds_append_left (by omega)
theorem Ykg (C:Nat) (x:Nat->Pr) (R:Array Value) (i:Nat) (v:Value) (hi:i<2*C):(V5 C x++R).setIfInBounds i v=(V5 C x).setIfInBounds i v++R:=UN C _ (XL C x) R i v hi
def KB (x:Nat->Pr) (C:Nat):Prop:=∀i,i<C->-1000000000000000<=(x i).k/\(x i).k<=1000000000000000
section
variable {w w':World} {g C:Nat} {x:Nat->Pr}
theorem PB.k (h:PB w g C x) (i:Nat) (hi:i<C):w.cell? ⟨g,i*2,none⟩=some (.int .i64 (x i).k):=by
 obtain⟨R,h⟩:=h;exact(Blk.cell h (i*2)).trans ((Yh6 C x R _ (by omega)).trans (Ykf C x i _ rfl hi))
theorem PB.s (h:PB w g C x) (i:Nat) (hi:i<C):w.cell? ⟨g,i*2+1,none⟩=some (x i).s:=by
 obtain⟨R,h⟩:=h;exact(Blk.cell h (i*2+1)).trans ((Yh6 C x R _ (by omega)).trans (Yke C x i _ rfl hi))
theorem PB.lt (h:PB w g C x):g<w.heap.size:=by obtain⟨R,h⟩:=h;exact Blk.lt h
theorem PB.frozen (h:PB w g C x) (i:Nat):w.frozen? ⟨g,i,none⟩=false:=by obtain⟨R,h⟩:=h;exact Blk.frozen h i
theorem PB.sw (h:PB w g C x) (i j:Nat) (hij:i ≠ j) (hi:i<C) (hj:j<C):PB ((((w.setCell ⟨g,i*2,none⟩ (.int .i64 (x j).k)).setCell ⟨g,i*2+1,none⟩ (x j).s).setCell ⟨g,j*2,none⟩ (.int .i64 (x i).k)).setCell ⟨g,j*2+1,none⟩ (x i).s) g C (Go.Proofs.YthehocmfpoglgaaGreat.sw x i j):=by
 obtain⟨R,h⟩:=h;refine⟨R,?_⟩;have h4:=(((Blk.set_ h (i*2) (.int .i64 (x j).k)).set_ (i*2+1) (x j).s).set_ (j*2) (.int .i64 (x i).k)).set_ (j*2+1) (x i).s;rw[Ykg C x R _ _ (by omega),UN C _ (by rw[Array.size_setIfInBounds,XL]) R _ _ (by omega),UN C _ (by rw[Array.size_setIfInBounds,Array.size_setIfInBounds,XL]) R _ _ (by omega),UN C _ (by rw[Array.size_setIfInBounds,Array.size_setIfInBounds,Array.size_setIfInBounds,XL]) R _ _ (by omega),Yh3 C x i j hij] at h4;exact h4
theorem PB.grown {r:Option Nat} (h:PB w g C x) (hg:w.grownBy w' r) (hr:some g ≠ r):PB w' g C x:=by obtain⟨R,h⟩:=h;exact⟨R,Blk.grown h hg hr⟩
theorem PB.below {B:Nat} (h:PB w g C x) (hb:Below B w w') (hB:g<B):PB w' g C x:=by obtain⟨R,h⟩:=h;exact⟨R,Blk.below h hb hB⟩
end
def Ch1 (w w':World) (g:Nat):Prop:=w.grownBy w' (some g)
theorem Ch1.refl (w:World) (g:Nat):Ch1 w w g:=⟨rfl,rfl,rfl,Qa _,fun _ _ _=>rfl⟩
theorem Ch1.trans {w w1 w2:World} {g:Nat} (h:Ch1 w w1 g) (k:Ch1 w1 w2 g):Ch1 w w2 g:=
 ⟨k.os.trans h.os,k.tape.trans h.tape,k.output.trans h.output,Qe h.size k.size,fun b hb hr=>(k.block b (Qb hb h.size) hr).trans (h.block b hb hr)⟩
theorem Ch1.below {w w1 w2:World} {g:Nat} (h:Ch1 w w1 g) (k:Below w1.heap.size w1 w2):Ch1 w w2 g:=
 ⟨k.os.trans h.os,k.tape.trans h.tape,k.output.trans h.output,Qe h.size k.size,fun b hb hr=>(k.block b (Qb hb h.size)).trans (h.block b hb hr)⟩
theorem Ch1.set {w w1:World} {g:Nat} (h:Ch1 w w1 g) (i:Nat) (u:Value):Ch1 w (w1.setCell ⟨g,i,none⟩ u) g:=
 ⟨h.os,h.tape,h.output,by simpa [World.setCell] using h.size,fun b hb hr=>(Below.heap_setCell w1 ⟨g,i,none⟩ u b (fun e=>hr (congrArg some e))).trans (h.block b hb hr)⟩
theorem Ch1.drewN {w w1:World} {g:Nat} (h:Ch1 w w1 g) (n:Nat):Ch1 w (w1.drewN n) g:=⟨h.os,h.tape,h.output,h.size,h.block⟩
theorem Ch1.drew {w w1:World} {g:Nat} (h:Ch1 w w1 g):Ch1 w w1.drew g:=⟨h.os,h.tape,h.output,h.size,h.block⟩
theorem UD (k1 k2:Int) (v1 v2:Value) (h1:-1000000000000000<=k1/\k1<=1000000000000000) (h2:-1000000000000000<=k2/\k2<=1000000000000000) (w:World) :
 Calls Tryz.prog 112 #[.agg #[.int .i64 k1,v1],.agg #[.int .i64 k2,v2]] w fun e w'=>e=.returned (.int .i64 (k1-k2))/\Below w.heap.size w w':=by
 have B1:=Blk.new w 195 #[.int .i64 k1,v1];have B2:=Blk.new (w.alloc (.cells #[.int .i64 k1,v1] 195)) 195 #[.int .i64 k2,v2];have c1:=(B1.alloc (.cells #[.int .i64 k2,v2] 195)).cell 0;have c2:=B2.cell 0;have hb:=((Below.refl w.heap.size w).alloc (Qa _) (.cells #[.int .i64 k1,v1] 195)).alloc (by simp) (.cells #[.int .i64 k2,v2] 195);simp at c1 c2;have Hb:=Qf hb;clear hb B1 B2;go_enter Tryz.func112,Tryz.ntmps112;go_wp2_with fail;go_ret;exact⟨by congr 3,Hb.out⟩
set_option maxHeartbeats 16000000 in
theorem J7 (fv:Value) (g C N cap a b n:Nat) (hab:a+n<=b) (hb:b+n<=N) (hN:N<=C) (hC:C<=1000000) (x:Nat->Pr) (w:World) (hx:PB w g C x) :
 Calls Tryz.prog 127 #[.slice (some ⟨g,0,none⟩) N cap,.int .i64 (a:Int),.int .i64 (b:Int),.int .i64 (n:Int),fv] w fun e w'=>e=.returned (.tuple #[])/\Ch1 w w' g/\PB w' g C (swN x a b n):=by
 have HX0:Hid (PB w g C (swN x a b 0)):=by show PB _ _ _ _;rw[YjR];exact hx
 have HG0:=Qf (Ch1.refl w g);clear hx;go_enter Tryz.func127,Tryz.ntmps127;go_wp2_with fail
 go_loopw [10] (fun i_ wr=>∃i:Nat,i<=n/\i_=.int .i64 (i:Int)/\Hid (PB wr g C (swN x a b i))/\Hid (Ch1 w wr g)) (fun i _=>n-(intOf i).toNat)
 case atStart=>exact⟨0,by omega,by first|rfl|go_num,HX0,HG0⟩
 clear HX0 HG0;obtain⟨i,hi,rfl,HX,HG⟩:=hrel;by_cases hlt:i<n
 . have d1:decide ((i:Int)<(n:Int))=true:=Qg (by omega)
   obtain⟨p,Hp⟩:=Qi (a+i);obtain⟨q,Hq⟩:=Qi (b+i);have hpv:=Hp.out;have hqv:=Hq.out;have w1:IntKind.i64.wrap ((a:Int)+(i:Int))=(p:Int):=by rw[IntKind.wrap_i64];omega
   have w2:IntKind.i64.wrap ((b:Int)+(i:Int))=(q:Int):=by rw[IntKind.wrap_i64];omega
   have hpN:(p:Int)<(N:Int):=by omega
   have hqN:(q:Int)<(N:Int):=by omega
   have hc1:=HX.out.k p (by omega);have hs1:=HX.out.s p (by omega);have hc2:=HX.out.k q (by omega);have hs2:=HX.out.s q (by omega);have hf1:=PB.frozen HX.out (p*2);have hf2:=PB.frozen HX.out (p*2+1);have hf3:=PB.frozen HX.out (q*2);have hf4:=PB.frozen HX.out (q*2+1);have ne1:¬(q*2=p*2):=by omega
   have ne2:¬(q*2=p*2+1):=by omega
   have ne3:¬(q*2+1=p*2):=by omega
   have ne4:¬(q*2+1=p*2+1):=by omega
   have ne5:¬(p*2=q*2):=by omega
   have ne6:¬(p*2=q*2+1):=by omega
   have ne7:¬(p*2+1=q*2):=by omega
   have ne8:¬(p*2+1=q*2+1):=by omega
   have hS:=HX.out.sw p q (by omega) (by omega) (by omega);rw[<-hpv,<-hqv,YjS x a b i (by omega),hpv,hqv] at hS;obtain⟨X,HXp⟩:=Qi (swN x a b i p);obtain⟨Y,HYq⟩:=Qi (swN x a b i q);rw[HXp.out] at hc1 hs1 hS;rw[HYq.out] at hc2 hs2 hS;obtain⟨k1,a1,n1,c1⟩:=X;obtain⟨k2,a2,n2,c2⟩:=Y;unfold Pr.s at hs1 hs2 hS;dsimp only at hc1 hs1 hc2 hs2 hS;have HPS:Hid (∀m,PB (((((wr.setCell ⟨g,p*2,none⟩ (.int .i64 k2)).setCell ⟨g,p*2+1,none⟩ (.slice a2 n2 c2)).setCell ⟨g,q*2,none⟩ (.int .i64 k1)).setCell ⟨g,q*2+1,none⟩ (.slice a1 n1 c1)).drewN m) g C (swN x a b (i+1))):=fun m=>hS
   have HGS:Hid (∀m,Ch1 w (((((wr.setCell ⟨g,p*2,none⟩ (.int .i64 k2)).setCell ⟨g,p*2+1,none⟩ (.slice a2 n2 c2)).setCell ⟨g,q*2,none⟩ (.int .i64 k1)).setCell ⟨g,q*2+1,none⟩ (.slice a1 n1 c1)).drewN m) g):=fun m=>
    ((((HG.out.set _ _).set _ _).set _ _).set _ _).drewN m
   clear hS HX HG hpv hqv HXp HYq;go_wp2_with fail
   go_region
   all_goals
    go_wp2_with fail;go_roundw
    case rel=>exact⟨i+1,by omega,by go_num,HPS.out 1,HGS.out 1⟩
    simp[intOf];omega
 obtain rfl:i=n:=by omega
 have d1:decide ((i:Int)<(i:Int))=false:=Qh (by omega);go_wp2_with fail
 (try simp only[Exit.inBlock,Exit.then]);refine bodyPost_end (results_none rfl _ _ _) rfl ?_
 exact⟨rfl,HG.out,HX.out⟩
set_option maxHeartbeats 16000000 in
theorem Yf2 (fv:Value) (g C N cap a m b:Nat) (ha:a<m) (hm:m<b) (hb:b<=N) (hN:N<=C) (hC:C<=1000000) (x:Nat->Pr) (w:World) (hx:PB w g C x) :
 Calls Tryz.prog 126 #[.slice (some ⟨g,0,none⟩) N cap,.int .i64 (a:Int),.int .i64 (m:Int),.int .i64 (b:Int),fv] w fun e w'=>e=.returned (.tuple #[])/\Ch1 w w' g/\PB w' g C (rot x a m b):=by
 obtain⟨i0,hi0⟩:∃i,i=m-a:=⟨_,rfl⟩;obtain⟨j0,hj0⟩:∃i,i=b-m:=⟨_,rfl⟩;have w1:IntKind.i64.wrap ((m:Int)-(a:Int))=(i0:Int):=by rw[IntKind.wrap_i64];omega
 have w2:IntKind.i64.wrap ((b:Int)-(m:Int))=(j0:Int):=by rw[IntKind.wrap_i64];omega
 obtain⟨y0,HX0⟩:∃y,Hid (PB w g C y/\rot y (m-i0) m (m+j0)=rot x a m b):=⟨x,hx,by rw[show m-i0=a by omega,show m+j0=b by omega]⟩;have HG0:=Qf (Ch1.refl w g);have hi1:1<=i0:=by omega
 have hj1:1<=j0:=by omega
 have him:i0<=m:=by omega
 have hmj:m+j0<=N:=by omega
 clear hx hi0 hj0;go_enter Tryz.func126,Tryz.ntmps126;go_wp2_with fail
 go_loopw [10,11] (fun i_ j_ wr=>∃(i j:Nat) (y:Nat->Pr),1<=i/\1<=j/\i<=m/\m+j<=N/\i_=.int .i64 (i:Int)/\j_=.int .i64 (j:Int)/\Hid (PB wr g C y/\rot y (m-i) m (m+j)=rot x a m b)/\Hid (Ch1 w wr g)) (fun i j _=>(intOf i).toNat+(intOf j).toNat)
 case atStart=>exact⟨i0,j0,y0,hi1,hj1,him,hmj,by first|rfl|go_num,by first|rfl|go_num,HX0,HG0⟩
 clear HX0 HG0 hi1 hj1 him hmj w1 w2;obtain⟨i,j,y,hi1,hj1,him,hmj,rfl,rfl,HX,HG⟩:=hrel;obtain⟨p,Hp⟩:=Qi (m-i);have hpv:=Hp.out;have w1:IntKind.i64.wrap ((m:Int)-(i:Int))=(p:Int):=by rw[IntKind.wrap_i64];omega
 by_cases hne:i=j
 . subst hne
   have d1:((i:Int)!=(i:Int))=false:=by simp
   have CS:=Qf (J7 fv g C N cap p m i (by omega) (by omega) hN hC y wr HX.out.1)
   have HE:Hid (swN y p m i=rot x a m b):=by show _=_;rw[<-hpv,Yj5 y m i him,HX.out.2]
   rw[HE.out] at CS;clear hpv HX;go_wp2_with fail;refine CS.out.mono ?_;rintro e w2 ⟨rfl,h1,h2⟩;have H1:=Qf (HG.out.trans h1);have H2:=Qf h2;clear h1 h2;go_wp2_with fail
   (try simp only[Exit.inBlock,Exit.then]);refine bodyPost_end (results_none rfl _ _ _) rfl ?_
   exact⟨rfl,H1.out,H2.out⟩
 have d1:((i:Int)!=(j:Int))=true:=by simp;omega
 by_cases hgt:j<i
 . obtain⟨d2,d3⟩:=Qj (show j<i by omega)
   obtain⟨q,Hq⟩:=Qi (i-j);have hqv:=Hq.out;have w2:IntKind.i64.wrap ((i:Int)-(j:Int))=(q:Int):=by rw[IntKind.wrap_i64];omega
   have CS:=Qf (J7 fv g C N cap p m j (by omega) (by omega) hN hC y wr HX.out.1)
   have HE:Hid (rot (swN y p m j) (m-q) m (m+j)=rot x a m b):=by show _=_;rw[<-hpv,<-hqv,Yj4 y m i j him hgt,HX.out.2]
   have hq1:1<=q:=by omega
   have hqm:q<=m:=by omega
   have hqi:q<i:=by omega
   clear hpv hqv HX;go_wp2_with fail;refine CS.out.mono ?_;rintro e w2 ⟨rfl,h1,h2⟩;have H1:=Qf (HG.out.trans h1);have H2:=Qf h2;clear h1 h2;go_wp2_with fail;go_roundw
   case rel=>exact⟨q,j,_,hq1,hj1,hqm,hmj,by first|rfl|go_num,rfl,Qf ⟨H2.out,HE.out⟩,H1⟩
   simp[intOf];omega
 obtain⟨d2,d3⟩:=Ql (show i<=j by omega);obtain⟨q,Hq⟩:=Qi (j-i);have hqv:=Hq.out;have w2:IntKind.i64.wrap ((j:Int)-(i:Int))=(q:Int):=by rw[IntKind.wrap_i64];omega
 obtain⟨s,Hs⟩:=Qi (m+j);have hsv:=Hs.out;have w3:IntKind.i64.wrap ((m:Int)+(j:Int))=(s:Int):=by rw[IntKind.wrap_i64];omega
 obtain⟨u,Hu⟩:=Qi (s-i);have huv:=Hu.out;have w4:IntKind.i64.wrap ((s:Int)-(i:Int))=(u:Int):=by rw[IntKind.wrap_i64];omega
 have CS:=Qf (J7 fv g C N cap p u i (by omega) (by omega) hN hC y wr HX.out.1)
 have HE:Hid (rot (swN y p u i) (m-i) m (m+q)=rot x a m b):=by show _=_;rw[<-hpv,<-hqv,<-huv,<-hsv,YhM y m i j him (by omega),HX.out.2]
 have hq1:1<=q:=by omega
 have hqm:m+q<=N:=by omega
 have hqi:q<j:=by omega
 clear hpv hqv HX hsv huv;go_wp2_with fail;refine CS.out.mono ?_;rintro e w2 ⟨rfl,h1,h2⟩;have H1:=Qf (HG.out.trans h1);have H2:=Qf h2;clear h1 h2;go_wp2_with fail;go_roundw
 case rel=>exact⟨i,q,_,hi1,hq1,him,hqm,rfl,by first|rfl|go_num,Qf ⟨H2.out,HE.out⟩,H1⟩
 simp[intOf];omega
structure It where
 k:Int
 l:List Nat
def ik (x:It):Int:=x.k
def pairs:List It->List It
 |a::b::r=>⟨a.k+b.k,a.l++b.l⟩::pairs r
 |_=>[]
theorem UO:∀(n:Nat) (R:List It),R.length<=n->(pairs R).length=R.length/2:=by
 intro n
 induction n using Nat.strongRecOn with
 |ind n ih=>
  intro R h
  cases R with
  |nil=>rfl
  |cons a R=>
   cases R with
   |nil=>exact(show 0=1/2 by decide)
   |cons b R=>
    simp only[List.length_cons] at h;show(pairs R).length+1=(R.length+1+1)/2;rw[ih R.length (by omega) R (Qa _)];omega
theorem K6:∀(q:Nat) (R:List It),(pairs R).take q=pairs (R.take (2*q)):=by
 intro q
 induction q with
 |zero=>intro R;rw[List.take_zero,Nat.mul_zero,List.take_zero];rfl
 |succ q ih=>
  intro R
  cases R with
  |nil=>rw[List.take_nil];rfl
  |cons a R=>
   cases R with
   |nil=>rw[show 2*(q+1)=2*q+1+1 by omega,List.take_succ_cons,List.take_nil];rfl
   |cons b R=>
    rw[show 2*(q+1)=2*q+1+1 by omega,List.take_succ_cons,List.take_succ_cons];show _=_::pairs (R.take (2*q));rw[<-ih R];rfl
theorem YcQ:∀(q:Nat) (R:List It) (h:2*q+1<R.length),(pairs R)[q]?=some ⟨R[2*q].k+R[2*q+1].k,R[2*q].l++R[2*q+1].l⟩:=by
 intro q
 induction q with
 |zero=>
  intro R h
  match R,h with
  |a::b::R,_=>rfl
 |succ q ih=>
  intro R h
  match R,h with
  |a::b::R,h=>
   simp only[List.length_cons] at h;have e:=ih R (by omega);show(pairs R)[q]?=_;rw[e];rfl
theorem Ykd {a b:List Int} (h:List.Perm a b):a.sum=b.sum:=by
 induction h with
 |nil=>rfl
 |cons x _ ih=>simp only[List.sum_cons,ih]
 |swap x y l=>simp only[List.sum_cons];omega
 |trans _ _ ih1 ih2=>exact ih1.trans ih2
def syms (R:List It):List Nat:=R.flatMap It.l
def wsum (R:List It):Int:=(R.map It.k).sum
theorem Yge:∀(q:Nat) (R:List It),R.length=2*q->syms (pairs R)=syms R/\wsum (pairs R)=wsum R:=by
 intro q
 induction q with
 |zero=>
  intro R h;have:R=[]:=List.eq_nil_of_length_eq_zero (by omega);subst this;exact⟨rfl,rfl⟩
 |succ q ih=>
  intro R h
  match R,h with
  |a::b::R,h=>
   simp only[List.length_cons] at h;obtain⟨h1,h2⟩:=ih R (by omega);refine⟨?_,?_⟩
   . show(a.l++b.l)++syms (pairs R)=a.l++(b.l++syms R)
     rw[h1,List.append_assoc]
   show(a.k+b.k)+wsum (pairs R)=a.k+(b.k+wsum R);rw[h2,Int.add_assoc]
theorem YcP:∀(n:Nat) (R:List It),R.length<=n->Srt ik R->Srt ik (pairs R)/\∀a b r,R=a::b::r->∀x ∈ pairs r,a.k+b.k<=x.k:=by
 intro n
 induction n using Nat.strongRecOn with
 |ind n ih=>
  intro R h hs
  match R,h,hs with
  |[],_,_=>exact⟨List.Pairwise.nil,fun a b r e=>by cases e⟩
  |[a],_,_=>exact⟨List.Pairwise.nil,fun a b r e=>by cases e⟩
  |a::b::R,h,hs=>
   simp only[List.length_cons] at h;obtain⟨ha,hs2⟩:=List.pairwise_cons.1 hs;obtain⟨hb,hs3⟩:=List.pairwise_cons.1 hs2;obtain⟨h1,h2⟩:=ih R.length (by omega) R (Qa _) hs3
   have key:∀x ∈ pairs R,a.k+b.k<=x.k:=by
    intro x hx
    match R,hx,ha,hb,h2,h1 with
    |c::d::R,hx,ha,hb,h2,h1=>
     have h3:b.k<=c.k:=hb c (List.mem_cons_self ..);have h4:a.k<=d.k:=ha d (by simp);rcases List.mem_cons.1 hx with rfl|hx
     . show a.k+b.k<=c.k+d.k;omega
     have:=h2 c d R rfl x hx;omega
   refine⟨List.pairwise_cons.2 ⟨fun x hx=>key x hx,h1⟩,fun a' b' r e=>?_⟩;injection e with e1 e;injection e with e2 e3;subst e1 e2 e3;exact key
theorem Yku:∀(p:Nat) (A B:List It),Srt ik A->p<=A.length+B.length->∃c q,c+q=p/\c<=A.length/\q<=B.length/\List.Perm ((mrg ik A B).take p) (A.take c++B.take q)/\
 (∀x ∈ B.take q,∀y ∈ A.drop c,x.k<y.k):=by
 intro p
 induction p with
 |zero=>intro A B _ _;exact⟨0,0,rfl,Nat.zero_le _,Nat.zero_le _,by simp,fun x hx=>by simp at hx⟩
 |succ p ih=>
  intro A B hs h
  match A,B,hs,h with
  |[],B,hs,h=>
   refine⟨0,p+1,by omega,Nat.zero_le _,by simpa using h,?_,fun _ _ y hy=>by simp at hy⟩;rw[YK,List.take_nil,List.nil_append]
  |a::A,[],hs,h=>
   refine⟨p+1,0,by omega,by simpa using h,Nat.zero_le _,?_,fun x hx=>by simp at hx⟩;rw[YR,List.take_zero,List.append_nil]
  |a::A,b::B,hs,h=>
   simp only[List.length_cons] at h;have hs':=List.pairwise_cons.1 hs;rw[YE];by_cases hlt:ik b<ik a
   . rw[if_pos hlt,List.take_succ_cons]
     obtain⟨c,q,h1,h2,h3,h4,h5⟩:=ih (a::A) B hs (by simp only[List.length_cons];omega);refine⟨c,q+1,by omega,h2,by simp only[List.length_cons];omega,?_,fun x hx y hy=>?_⟩
     . rw[List.take_succ_cons]
       exact(h4.cons b).trans List.perm_middle.symm
     rw[List.take_succ_cons] at hx;rcases List.mem_cons.1 hx with rfl|hx
     . have hy2:=List.mem_of_mem_drop hy
       have hxa:x.k<a.k:=hlt;rcases List.mem_cons.1 hy2 with rfl|hy2
       . exact hxa
       have:a.k<=y.k:=hs'.1 y hy2;omega
     exact h5 x hx y hy
   rw[if_neg hlt,List.take_succ_cons];obtain⟨c,q,h1,h2,h3,h4,h5⟩:=ih A (b::B) hs'.2 (by simp only[List.length_cons];omega);refine⟨c+1,q,by omega,by simp only[List.length_cons];omega,h3,?_,fun x hx y hy=>?_⟩
   . rw[List.take_succ_cons]
     exact h4.cons a
   rw[List.drop_succ_cons] at hy;exact h5 x hx y hy
def rowN (A:List It):Nat->List It
 |0=>[]
 |k+1=>mrg ik A (pairs (rowN A k))
theorem YeG (A:List It) (hA:Srt ik A):∀k,Srt ik (rowN A k):=by
 intro k
 induction k with
 |zero=>exact List.Pairwise.nil
 |succ k ih=>exact Yio ik _ _ _ (Qa _) hA (YcP _ _ (Qa _) ih).1
theorem JU (A:List It) (hA:∀x ∈ A,0<x.k):∀k,∀x ∈ rowN A k,0<x.k:=by
 have key:∀(n:Nat) (R:List It),R.length<=n->(∀x ∈ R,0<x.k)->∀x ∈ pairs R,0<x.k:=by
  intro n
  induction n using Nat.strongRecOn with
  |ind n ih=>
   intro R h hR x hx
   match R,h,hR,hx with
   |a::b::R,h,hR,hx=>
    simp only[List.length_cons] at h;rcases List.mem_cons.1 hx with rfl|hx
    . have h1:=hR a (List.mem_cons_self ..)
      have h2:=hR b (by simp);show 0<a.k+b.k;omega
    exact ih R.length (by omega) R (Qa _) (fun y hy=>hR y (by simp[hy])) x hx
 intro k
 induction k with
 |zero=>intro x hx;cases hx
 |succ k ih=>
  intro x hx;rcases(Jf ik _ _ x).1 hx with h|h
  . exact hA x h
  exact key _ _ (Qa _) ih x h
theorem YbQ (A:List It) (k:Nat):(rowN A (k+1)).length=A.length+(rowN A k).length/2:=by
 show(mrg ik A (pairs (rowN A k))).length=_;rw[Yip,UO _ _ (Qa _)]
theorem Yah (A:List It) (hA:1<=A.length):∀k,(2*A.length-1-(rowN A (k+1)).length)=(A.length-1)/2^k/\(rowN A (k+1)).length<=2*A.length-1:=by
 intro k
 induction k with
 |zero=>
  rw[YbQ];show 2*A.length-1-(A.length+0/2)=(A.length-1)/1/\_;rw[Nat.div_one];exact⟨by omega,by show A.length+0/2<=_;omega⟩
 |succ k ih=>
  obtain⟨h1,h2⟩:=ih;rw[YbQ,Nat.pow_succ,<-Nat.div_div_eq_div_mul,<-h1];omega
def valC:List Nat->Nat
 |[]=>0
 |c::r=>c*2^r.length+valC r
theorem Yln (A:List It) (hA:Srt ik A) (hp:∀x ∈ A,0<x.k):∀k p,p<=(rowN A k).length->∃cs:List Nat,cs.length=k/\cs.Pairwise (fun a b=>b<=a)/\(∀c ∈ cs,c<=A.length)/\2*valC cs=p*2^k/\
 List.Perm (syms ((rowN A k).take p)) (cs.flatMap fun c=>syms (A.take c))/\wsum ((rowN A k).take p)=(cs.map fun c=>wsum (A.take c)).sum/\(∀c r,cs=c::r->∀x ∈ A.take c,x ∈ (rowN A k).take p):=by
 intro k
 induction k with
 |zero=>
  intro p h;have hp0:p=0:=by simpa [rowN] using h
  subst hp0;exact⟨[],rfl,List.Pairwise.nil,fun c hc=>(by cases hc),(by show 2*0=0*2^0;omega),List.Perm.refl _,rfl,fun c r e=>(by cases e)⟩
 |succ k ih=>
  intro p h;have hl:p<=A.length+(pairs (rowN A k)).length:=by rw[<-Yip ik];exact h
  obtain⟨c,q,h1,h2,h3,h4,h5⟩:=Yku p A (pairs (rowN A k)) hA hl;have hq:2*q<=(rowN A k).length:=by rw[UO _ _ (Qa _)] at h3;omega
  obtain⟨cs,k1,k2,k3,k4,k5,k6,k7⟩:=ih (2*q) hq;have htl:((rowN A k).take (2*q)).length=2*q:=by rw[List.length_take];omega
  obtain⟨s1,s2⟩:=Yge q ((rowN A k).take (2*q)) htl;rw[<-K6] at s1 s2
  have hsy:List.Perm (syms ((mrg ik A (pairs (rowN A k))).take p)) (syms (A.take c)++syms ((rowN A k).take (2*q))):=by
   have:=h4.flatMap_right It.l;rw[List.flatMap_append] at this;show List.Perm (syms _) _;rw[<-s1];exact this
  have hws:wsum ((mrg ik A (pairs (rowN A k))).take p)=wsum (A.take c)+wsum ((rowN A k).take (2*q)):=by
   have:=Ykd (h4.map It.k);rw[List.map_append,List.sum_append] at this;rw[<-s2];exact this
  refine⟨c::cs,by rw[List.length_cons,k1],List.pairwise_cons.2 ⟨?_,k2⟩,?_,?_,?_,?_,?_⟩
  . -- each earlier round brings no more
    have key:∀c' r,cs=c'::r->c'<=c:=by
     intro c' r e;by_cases hcc:c'<=c
     . exact hcc
     exfalso;have hc':=k3 c' (by rw[e];exact List.mem_cons_self ..);have hclt:c<A.length:=by omega
     have hmem:A[c] ∈ A.take c':=by
      refine List.mem_take_iff_getElem.2 ⟨c,by omega,rfl⟩
     have hin:=k7 c' r e _ hmem;obtain⟨i,hi,he⟩:=List.mem_take_iff_getElem.1 hin;have hi2:i<2*q:=(by omega);have hq1:1<=q:=(by omega);have hR:=YeG A hA k;have hpos:=JU A hp k;have hb:2*(q-1)+1<(rowN A k).length:=(by omega);have hg:=YcQ (q-1) (rowN A k) hb
     have hbm:(⟨(rowN A k)[2*(q-1)].k+(rowN A k)[2*(q-1)+1].k,(rowN A k)[2*(q-1)].l++(rowN A k)[2*(q-1)+1].l⟩:It) ∈ (pairs (rowN A k)).take q:=by
      have hlt:q-1<(pairs (rowN A k)).length:=(by omega);rw[List.getElem?_eq_getElem hlt] at hg;injection hg with hg;rw[<-hg];exact List.mem_take_iff_getElem.2 ⟨q-1,by omega,rfl⟩
     have hAd:A[c] ∈ A.drop c:=by
      rw[List.drop_eq_getElem_cons hclt];exact List.mem_cons_self ..
     have h6:=h5 _ hbm _ hAd
     have h7:(rowN A k)[i].k<=(rowN A k)[2*(q-1)+1].k:=by
      by_cases ei:i=2*(q-1)+1
      . simp only[ei];exact Int.le_refl _
      exact(List.pairwise_iff_getElem.1 hR) i (2*(q-1)+1) (by omega) hb (by omega)
     have h8:=hpos _ (List.getElem_mem (l:=rowN A k) (n:=2*(q-1)) (by omega));rw[he] at h7;have h9:(rowN A k)[2*(q-1)].k+(rowN A k)[2*(q-1)+1].k<A[c].k:=h6;omega
    intro d hd
    cases cs with
    |nil=>cases hd
    |cons c' r=>
     have hc':=key c' r rfl;rcases List.mem_cons.1 hd with rfl|hd
     . exact hc'
     exact Qe ((List.pairwise_cons.1 k2).1 d hd) hc'
  . intro d hd
    rcases List.mem_cons.1 hd with rfl|hd
    . exact h2
    exact k3 d hd
  . show 2*(c*2^cs.length+valC cs)=_
    rw[k1,Nat.mul_add,k4,Nat.pow_succ,<-h1,Nat.add_mul,Nat.mul_comm 2 q,Nat.mul_assoc q 2,Nat.mul_comm 2 (2^k)]
    congr 1
    rw[Nat.mul_comm 2,Nat.mul_assoc]
  . show List.Perm (syms ((mrg ik A (pairs (rowN A k))).take p)) (syms (A.take c)++cs.flatMap fun c=>syms (A.take c))
    exact hsy.trans (k5.append_left _)
  . show wsum ((mrg ik A (pairs (rowN A k))).take p)=wsum (A.take c)+(cs.map fun c=>wsum (A.take c)).sum
    rw[hws,k6]
  intro d r e x hx;injection e with e1 e2;subst e1;exact h4.symm.subset (List.mem_append_left _ hx)
def hC (cs:List Nat) (j:Nat):Nat:=cs.countP fun c=>decide (j<c)
theorem Yax (c:Nat) (r:List Nat) (j:Nat):hC (c::r) j=hC r j+if j<c then 1 else 0:=by
 unfold hC;rw[List.countP_cons];by_cases h:j<c
 . simp[h]
 simp[h]
theorem Ynn (cs:List Nat) (j:Nat):hC cs j<=cs.length:=List.countP_le_length
theorem Ymu (cs:List Nat) (i j:Nat) (h:i<=j):hC cs j<=hC cs i:=by
 induction cs with
 |nil=>exact Qa _
 |cons c r ih=>
  rw[Yax,Yax];by_cases h1:j<c
  . rw[if_pos h1,if_pos (by omega)];omega
  rw[if_neg h1];omega
def valI:List Nat->Nat->Nat
 |[],_=>0
 |c::r,j=>(if j<c then 2^r.length else 0)+valI r j
theorem Yhb:∀(cs:List Nat) (j:Nat),(∀c ∈ cs,c<=j)->valI cs j=0/\hC cs j=0:=by
 intro cs
 induction cs with
 |nil=>intro j _;exact⟨rfl,rfl⟩
 |cons c r ih=>
  intro j h;obtain⟨h1,h2⟩:=ih j fun d hd=>h d (List.mem_cons_of_mem _ hd);have hc:=h c (List.mem_cons_self ..);rw[Yax,h2,if_neg (by omega)];refine⟨?_,rfl⟩;show(if j<c then _ else 0)+valI r j=0;rw[if_neg (by omega),h1]
theorem Ylz:∀(cs:List Nat) (j:Nat),cs.Pairwise (fun a b=>b<=a)->valI cs j+2^(cs.length-hC cs j)=2^cs.length:=by
 intro cs
 induction cs with
 |nil=>intro j _;rfl
 |cons c r ih=>
  intro j h;obtain⟨h1,h2⟩:=List.pairwise_cons.1 h;by_cases hj:j<c
  . rw[Yax,if_pos hj]
    show(if j<c then 2^r.length else 0)+valI r j+2^(r.length+1-(hC r j+1))=2^(r.length+1);rw[if_pos hj,Nat.add_sub_add_right,Nat.add_assoc,ih j h2,Nat.pow_succ];omega
  obtain⟨k1,k2⟩:=Yhb (c::r) j (fun d hd=>by
   rcases List.mem_cons.1 hd with rfl|hd
   . omega
   have:=h1 d hd;omega)
  rw[k1,k2,Nat.zero_add,Nat.sub_zero]
theorem YhB (f:Nat->Nat) (d:Nat) (k:Nat):YM (fun j=>f j*d) k=YM f k*d:=by
 induction k with
 |zero=>exact(Nat.zero_mul d).symm
 |succ k ih=>simp only[YM,ih,Nat.add_mul]
theorem YdE (c v:Nat):∀n,c<=n->YM (fun j=>if j<c then v else 0) n=c*v:=by
 intro n
 induction n with
 |zero=>
  intro h;have:c=0:=by omega
  subst this;exact(Nat.zero_mul v).symm
 |succ n ih=>
  intro h;by_cases hc:c=n+1
  . subst hc
    have e:∀m,m<=n+1->YM (fun j=>if j<n+1 then v else 0) m=m*v:=by
     intro m
     induction m with
     |zero=>intro _;exact(Nat.zero_mul v).symm
     |succ m ih2=>
      intro hm;simp only[YM];rw[ih2 (by omega),if_pos (by omega),Nat.succ_mul]
    exact e (n+1) (Qa _)
  simp only[YM];rw[ih (by omega),if_neg (by omega)];rfl
theorem YjD (n:Nat):∀(cs:List Nat),(∀c ∈ cs,c<=n)->valC cs=YM (valI cs) n:=by
 intro cs
 induction cs with
 |nil=>
  intro _
  have:∀m,YM (valI []) m=0:=by
   intro m
   induction m with
   |zero=>rfl
   |succ m ih=>show YM (valI []) m+0=0;rw[ih]
  rw[this];rfl
 |cons c r ih=>
  intro h;have e:YM (valI (c::r)) n=YM (fun j=>(if j<c then 2^r.length else 0)+valI r j) n:=rfl;rw[e,KH,YdE c _ n (h c (List.mem_cons_self ..)),<-ih fun d hd=>h d (List.mem_cons_of_mem _ hd)];rfl
theorem Ynm (n:Nat) (cs:List Nat) (hd:cs.Pairwise (fun a b=>b<=a)) (hn:∀c ∈ cs,c<=n):valC cs+YM (fun j=>2^(cs.length-hC cs j)) n=n*2^cs.length:=by
 rw[YjD n cs hn,<-KH,Xc _ (fun _=>2^cs.length) n fun j _=>Ylz cs j hd]
 have:∀m,YM (fun _=>2^cs.length) m=m*2^cs.length:=by
  intro m
  induction m with
  |zero=>exact(Nat.zero_mul _).symm
  |succ m ih=>simp only[YM,ih,Nat.succ_mul]
 exact this n
theorem YiC (n:Nat) (h1:1<=n) (cs:List Nat) (hd:cs.Pairwise (fun a b=>b<=a)) (hn:∀c ∈ cs,c<=n) (hv:2*valC cs=(2*n-2)*2^cs.length):YM (fun j=>2^(cs.length-hC cs j)) n=2^cs.length:=by
 have hk:=Ynm n cs hd hn;have e1:2*valC cs=2*((n-1)*2^cs.length):=by rw[hv,<-Nat.mul_assoc];congr 1;omega
 have e2:n*2^cs.length=(n-1)*2^cs.length+2^cs.length:=by rw[<-Nat.succ_mul];congr 1;omega
 omega
theorem YaZ (f:Nat->Nat) (n j:Nat) (h:j<n):f j<=YM f n:=by
 induction n with
 |zero=>omega
 |succ n ih=>
  simp only[YM];by_cases e:j=n
  . subst e;omega
  have:=ih (by omega);omega
theorem YhA (f:Nat->Nat) (n i j:Nat) (hi:i<n) (hj:j<n) (h:i ≠ j):f i+f j<=YM f n:=by
 induction n with
 |zero=>omega
 |succ n ih=>
  simp only[YM];by_cases e1:i=n
  . subst e1
    have:=YaZ f i j (by omega);omega
  by_cases e2:j=n
  . subst e2
    have:=YaZ f j i (by omega);omega
  have:=ih (by omega) (by omega);omega
theorem Yk6 (n:Nat) (h2:2<=n) (cs:List Nat) (hs:YM (fun j=>2^(cs.length-hC cs j)) n=2^cs.length) (j:Nat) (hj:j<n):0<hC cs j:=by
 by_cases h:0<hC cs j
 . exact h
 exfalso;have h0:hC cs j=0:=by omega
 obtain⟨i,hi,hne⟩:∃i,i<n/\i ≠ j:=by
  by_cases e:j=0
  . exact⟨1,by omega,by omega⟩
  exact⟨0,by omega,by omega⟩
 have:=YhA (fun j=>2^(cs.length-hC cs j)) n i j hi hj hne;simp only[h0,Nat.sub_zero] at this;have hp:0<2^(cs.length-hC cs i):=Nat.pow_pos (by decide);omega
def Yn (cnt:Nat->Int):Nat->List It
 |0=>[]
 |n+1=>Yn cnt n++if 0<cnt n then [⟨cnt n,[n]⟩] else []
theorem VU (cnt:Nat->Int) (n:Nat) (x:It) (h:x ∈ Yn cnt n):∃s,s<n/\0<cnt s/\x=⟨cnt s,[s]⟩:=by
 induction n with
 |zero=>cases h
 |succ n ih=>
  rcases List.mem_append.1 h with h|h
  . obtain⟨s,h1,h2⟩:=ih h
    exact⟨s,by omega,h2⟩
  by_cases h0:0<cnt n
  . rw[if_pos h0] at h
    rcases List.mem_cons.1 h with rfl|h
    . exact⟨n,by omega,h0,rfl⟩
    cases h
  rw[if_neg h0] at h;cases h
theorem YgQ (cnt:Nat->Int) (f:Nat->Nat) (n:Nat):((Yn cnt n).map fun x=>f (x.l.headD 0)).sum=YM (fun s=>if 0<cnt s then f s else 0) n:=by
 induction n with
 |zero=>rfl
 |succ n ih=>
  show((Yn cnt n++_).map _).sum=_;rw[List.map_append,List.sum_append,ih];simp only[YM]
  congr 1
  by_cases h0:0<cnt n
  . rw[if_pos h0,if_pos h0];simp
  rw[if_neg h0,if_neg h0];rfl
theorem Xr (cnt:Nat->Int) (n:Nat):(syms (Yn cnt n)).Nodup/\∀s,s ∈ syms (Yn cnt n) ↔ (s<n/\0<cnt s):=by
 induction n with
 |zero=>exact⟨List.nodup_nil,fun s=>by simp[syms,Yn]⟩
 |succ n ih=>
  obtain⟨h1,h2⟩:=ih
  have e:syms (Yn cnt (n+1))=syms (Yn cnt n)++(if 0<cnt n then [n] else []):=by
   show(Yn cnt n++_).flatMap It.l=_;rw[List.flatMap_append]
   congr 1
   by_cases h0:0<cnt n
   . rw[if_pos h0,if_pos h0];rfl
   rw[if_neg h0,if_neg h0];rfl
  rw[e];refine⟨?_,fun s=>?_⟩
  . by_cases h0:0<cnt n
    . rw[if_pos h0]
      refine List.nodup_append.2 ⟨h1,by simp,fun a ha b hb=>?_⟩;have:=(h2 a).1 ha;rcases List.mem_cons.1 hb with rfl|hb
      . omega
      cases hb
    rw[if_neg h0,List.append_nil];exact h1
  rw[List.mem_append,h2];by_cases h0:0<cnt n
  . rw[if_pos h0]
    constructor
    . rintro (⟨a,b⟩|h)
      . exact⟨by omega,b⟩
      rcases List.mem_cons.1 h with rfl|h
      . exact⟨by omega,h0⟩
      cases h
    rintro ⟨a,b⟩;by_cases es:s=n
    . right;rw[es];exact List.mem_cons_self ..
    left;exact⟨by omega,b⟩
  rw[if_neg h0];constructor
  . rintro (⟨a,b⟩|h)
    . exact⟨by omega,b⟩
    cases h
  rintro ⟨a,b⟩;left;refine⟨?_,b⟩;by_cases es:s=n
  . subst es;exact absurd b h0
  omega
def finL (cnt:Nat->Int) (n most:Nat) (s:Nat):Nat:=
 if (Yn cnt n).length=1 then (if s<n/\0<cnt s then 1 else 0)
 else (syms ((rowN (Yw ik (Yn cnt n)) most).take (2*(Yn cnt n).length-2))).count s
section
variable {cnt:Nat->Int} {n most:Nat}
theorem Ym0:Srt ik (Yw ik (Yn cnt n)):=KQ ik _
theorem perm_A:List.Perm (Yw ik (Yn cnt n)) (Yn cnt n):=VT ik _
theorem YnC:∀x ∈ Yw ik (Yn cnt n),0<x.k:=by
 intro x hx;obtain⟨s,_,h,rfl⟩:=VU cnt n x (perm_A.mem_iff.1 hx);exact h
theorem Ymd:(syms (Yw ik (Yn cnt n))).Nodup:=(perm_A.flatMap_right It.l).nodup_iff.2 (Xr cnt n).1
def symA (A:List It) (j:Nat):Nat:=((A[j]?.map It.l).getD []).headD 0
theorem J6 (A:List It) (hA:∀x ∈ A,∃s,x.l=[s]):syms A=(List.range A.length).map (symA A):=by
 induction A with
 |nil=>rfl
 |cons a A ih=>
  obtain⟨s,hs⟩:=hA a (List.mem_cons_self ..);rw[List.length_cons,List.range_succ_eq_map,List.map_cons,List.map_map];show a.l++syms A=_;rw[ih fun x hx=>hA x (List.mem_cons_of_mem _ hx),hs];have e0:symA (a::A) 0=s:=by unfold symA;simp[hs]
  rw[e0];rfl
theorem YeD:∀x ∈ Yw ik (Yn cnt n),∃s,x.l=[s]:=by
 intro x hx;obtain⟨s,_,_,rfl⟩:=VU cnt n x (perm_A.mem_iff.1 hx);exact⟨s,rfl⟩
theorem YgN (A:List It) (hA:∀x ∈ A,∃s,x.l=[s]) (hn:(syms A).Nodup) (c j:Nat) (hj:j<A.length):(syms (A.take c)).count (symA A j)=if j<c then 1 else 0:=by
 have e1:syms (A.take c)=(syms A).take c:=by
  rw[J6 _ fun x hx=>hA x (List.mem_of_mem_take hx),J6 A hA,<-List.map_take,List.take_range,List.length_take];refine List.map_congr_left fun i hi=>?_;have:=List.mem_range.1 hi;unfold symA;rw[List.getElem?_take,if_pos (by omega)]
 have hl:(syms A).length=A.length:=by rw[J6 A hA];simp
 have hg:(syms A)[j]'(by omega)=symA A j:=by
  have h:(syms A)[j]?=some (symA A j):=by rw[J6 A hA];simp[hj]
  rw[List.getElem?_eq_getElem (by omega)] at h;injection h
 rw[e1];by_cases hjc:j<c
 . rw[if_pos hjc]
   have h1:=(List.nodup_iff_count.1 (hn.sublist (List.take_sublist c _))) (symA A j)
   have h2:0<((syms A).take c).count (symA A j):=List.count_pos_iff.2 (by
    rw[<-hg]
    exact List.mem_take_iff_getElem.2 ⟨j,by omega,rfl⟩)
   omega
 rw[if_neg hjc];refine List.count_eq_zero.2 fun hm=>?_;obtain⟨i,hi,he⟩:=List.mem_take_iff_getElem.1 hm;have:=(List.getElem_inj (h₀:=by omega) (h₁:=by omega) hn).1 (he.trans hg.symm);omega
theorem YgO (A:List It) (hA:∀x ∈ A,∃s,x.l=[s]) (hn:(syms A).Nodup) (j:Nat) (hj:j<A.length):∀cs:List Nat,(cs.flatMap fun c=>syms (A.take c)).count (symA A j)=hC cs j:=by
 intro cs
 induction cs with
 |nil=>rfl
 |cons c r ih=>rw[List.flatMap_cons,List.count_append,ih,YgN A hA hn c j hj,Yax];omega
theorem Yhz (A:List It) (f:Nat->Nat):(A.map fun x=>f (x.l.headD 0)).sum=YM (fun j=>f (symA A j)) A.length:=by
 have key:∀(m:Nat),m<=A.length->((A.take m).map fun x=>f (x.l.headD 0)).sum=YM (fun j=>f (symA A j)) m:=by
  intro m
  induction m with
  |zero=>intro _;rfl
  |succ m ih=>
   intro hm;rw[List.take_succ_eq_append_getElem (by omega),List.map_append,List.sum_append,ih (by omega)];simp only[YM]
   congr 1
   have:symA A m=A[m].l.headD 0:=by unfold symA;rw[List.getElem?_eq_getElem (by omega)];rfl
   rw[this];simp
 have:=key A.length (Qa _);rw[List.take_length] at this;exact this
theorem Yh2 {a b:List Nat} (h:List.Perm a b):a.sum=b.sum:=by
 induction h with
 |nil=>rfl
 |cons x _ ih=>simp only[List.sum_cons,ih]
 |swap x y l=>simp only[List.sum_cons];omega
 |trans _ _ ih1 ih2=>exact ih1.trans ih2
theorem Ycu (f:Nat->Nat) (n:Nat):YM (fun s=>if 0<cnt s then f s else 0) n=YM (fun j=>f (symA (Yw ik (Yn cnt n)) j)) (Yn cnt n).length:=by
 rw[<-YgQ,<-(perm_A (cnt:=cnt) (n:=n)).length_eq,<-Yhz];exact(Yh2 ((perm_A (cnt:=cnt) (n:=n)).map _)).symm
theorem Yey {j:Nat} (hj:j<(Yn cnt n).length):symA (Yw ik (Yn cnt n)) j<n/\0<cnt (symA (Yw ik (Yn cnt n)) j):=by
 have hl:=(perm_A (cnt:=cnt) (n:=n)).length_eq;have hm:(Yw ik (Yn cnt n))[j]'(by omega) ∈ Yn cnt n:=perm_A.mem_iff.1 (List.getElem_mem _);obtain⟨s,h1,h2,h3⟩:=VU cnt n _ hm;have:symA (Yw ik (Yn cnt n)) j=s:=by unfold symA;rw[List.getElem?_eq_getElem (by omega),h3];rfl
 rw[this];exact⟨h1,h2⟩
theorem Yld {j:Nat} (hj:j<(Yn cnt n).length):((Yw ik (Yn cnt n))[j]'(by have:=(perm_A (cnt:=cnt) (n:=n)).length_eq;omega)).k=cnt (symA (Yw ik (Yn cnt n)) j):=by
 have hl:=(perm_A (cnt:=cnt) (n:=n)).length_eq;have hm:(Yw ik (Yn cnt n))[j]'(by omega) ∈ Yn cnt n:=perm_A.mem_iff.1 (List.getElem_mem _);obtain⟨s,h1,h2,h3⟩:=VU cnt n _ hm;have:symA (Yw ik (Yn cnt n)) j=s:=by unfold symA;rw[List.getElem?_eq_getElem (by omega),h3];rfl
 rw[this,h3]
theorem JS {s:Nat} (h1:s<n) (h2:0<cnt s):∃j,j<(Yn cnt n).length/\symA (Yw ik (Yn cnt n)) j=s:=by
 have hm:s ∈ syms (Yw ik (Yn cnt n)):=((perm_A (cnt:=cnt) (n:=n)).flatMap_right It.l).mem_iff.2 (((Xr cnt n).2 s).2 ⟨h1,h2⟩);rw[J6 _ YeD] at hm;obtain⟨j,hj,he⟩:=List.mem_map.1 hm;exact⟨j,by have:=(perm_A (cnt:=cnt) (n:=n)).length_eq;have:=List.mem_range.1 hj;omega,he⟩
theorem YgC (h2:2<=(Yn cnt n).length) (hm:1<=most) (hbig:(Yn cnt n).length<=2^most):∃cs:List Nat,cs.length=most/\cs.Pairwise (fun a b=>b<=a)/\(∀c ∈ cs,c<=(Yn cnt n).length)/\2*valC cs=(2*(Yn cnt n).length-2)*2^cs.length/\
 (∀j,j<(Yn cnt n).length->finL cnt n most (symA (Yw ik (Yn cnt n)) j)=hC cs j)/\(∀s,¬(s<n/\0<cnt s)->finL cnt n most s=0)/\
 wsum ((rowN (Yw ik (Yn cnt n)) most).take (2*(Yn cnt n).length-2))=(cs.map fun c=>wsum ((Yw ik (Yn cnt n)).take c)).sum:=by
 have hl:=(perm_A (cnt:=cnt) (n:=n)).length_eq;obtain⟨k,rfl⟩:∃k,most=k+1:=⟨most-1,by omega⟩;have hen:=Yah (Yw ik (Yn cnt n)) (by omega) k
 have hlen:2*(Yn cnt n).length-2<=(rowN (Yw ik (Yn cnt n)) (k+1)).length:=by
  have h3:((Yw ik (Yn cnt n)).length-1)/2^k<=1:=by
   have:((Yw ik (Yn cnt n)).length-1)/2^k<2:=by
    rw[Nat.div_lt_iff_lt_mul (Nat.pow_pos (by decide))];have e:2^(k+1)=2*2^k:=(by rw[Nat.pow_succ,Nat.mul_comm]);omega
   omega
  omega
 obtain⟨cs,k1,k2,k3,k4,k5,k6,_⟩:=Yln (Yw ik (Yn cnt n)) Ym0 YnC (k+1) _ hlen
 have hfin:∀s,finL cnt n (k+1) s=(cs.flatMap fun c=>syms ((Yw ik (Yn cnt n)).take c)).count s:=fun s=>by
  unfold finL;rw[if_neg (by omega),k5.count_eq]
 refine⟨cs,k1,k2,fun c hc=>by have:=k3 c hc;omega,by rw[k4,k1],fun j hj=>?_,fun s hs=>?_,k6⟩
 . rw[hfin,YgO _ YeD Ymd j (by omega)]
 rw[hfin];refine List.count_eq_zero.2 fun hmem=>hs ?_;obtain⟨c,_,hc⟩:=List.mem_flatMap.1 hmem
 have:s ∈ syms (Yw ik (Yn cnt n)):=by
  obtain⟨x,hx,hx2⟩:=List.mem_flatMap.1 hc;exact List.mem_flatMap.2 ⟨x,List.mem_of_mem_take hx,hx2⟩
 exact((Xr cnt n).2 s).1 (((perm_A (cnt:=cnt) (n:=n)).flatMap_right It.l).mem_iff.1 this)
theorem Yfk (n:Nat):(Yn cnt n).length=Jq (fun s=>decide (0<cnt s)) n:=by
 induction n with
 |zero=>rfl
 |succ n ih=>
  show(Yn cnt n++_).length=Jq (fun s=>decide (0<cnt s)) n+if decide (0<cnt n)=true then 1 else 0
  rw[List.length_append,ih];by_cases h:0<cnt n
  . rw[if_pos h,decide_eq_true h];rfl
  rw[if_neg h,decide_eq_false h];rfl
structure LenOK (cnt:Nat->Int) (n most:Nat) (L:Nat->Nat):Prop where
 zero:∀s,¬(s<n/\0<cnt s)->L s=0
 pos:∀s,s<n->0<cnt s->0<L s
 le:∀s,L s<=most
 mono:∀i j,i<n->j<n->0<cnt j->cnt j<cnt i->L i<=L j
 some:YG L n=(Yn cnt n).length
 parts:parts L n=if (Yn cnt n).length=0 then 0 else if (Yn cnt n).length=1 then 16384 else 32768
theorem Yej (p q:Nat->Bool) (n:Nat) (h:∀j,j<n->p j=q j):Jq p n=Jq q n:=by
 induction n with
 |zero=>rfl
 |succ n ih=>
  simp only[Jq];rw[ih fun j hj=>h j (by omega),h n (by omega)]
theorem Jh {L:Nat->Nat} (hz:∀s,¬(s<n/\0<cnt s)->L s=0) (hp:∀s,s<n->0<cnt s->0<L s):YG L n=(Yn cnt n).length:=by
 rw[Yfk];refine Yej _ _ n fun s hs=>?_;by_cases h:0<cnt s
 . rw[decide_eq_true h,decide_eq_true (hp s hs h)]
 rw[decide_eq_false h,hz s (fun x=>h x.2)];rfl
theorem Ut {L:Nat->Nat} (hz:∀s,¬(s<n/\0<cnt s)->L s=0):parts L n=YM (fun j=>pt (L (symA (Yw ik (Yn cnt n)) j))) (Yn cnt n).length:=by
 rw[<-Ycu (fun s=>pt (L s)) n];refine Xc _ _ n fun s hs=>?_;by_cases h:0<cnt s
 . rw[if_pos h]
 rw[if_neg h,hz s (fun x=>h x.2)];rfl
theorem YiX (hm:1<=most) (hm15:most<=15) (hbig:(Yn cnt n).length<=2^most):LenOK cnt n most (finL cnt n most):=by
 by_cases h1:(Yn cnt n).length=1
 . have e:∀s,finL cnt n most s=if s<n/\0<cnt s then 1 else 0:=fun s=>by unfold finL;rw[if_pos h1]
   have hz:∀s,¬(s<n/\0<cnt s)->finL cnt n most s=0:=fun s hs=>by rw[e,if_neg hs]
   have hp:∀s,s<n->0<cnt s->0<finL cnt n most s:=fun s a b=>by rw[e,if_pos ⟨a,b⟩];decide
   refine⟨hz,hp,fun s=>?_,fun i j hi hj hcj hij=>?_,Jh hz hp,?_⟩
   . rw[e];split<;>omega
   . rw[e i,e j,if_pos (show j<n/\0<cnt j from⟨hj,hcj⟩)];split<;>omega
   rw[Ut hz,h1,if_neg (by decide),if_pos rfl];have hs:=Yey (cnt:=cnt) (n:=n) (j:=0) (by omega);show 0+pt _=16384;rw[e,if_pos hs];rfl
 by_cases h0:(Yn cnt n).length=0
 . have hnil:Yn cnt n=[]:=List.eq_nil_of_length_eq_zero h0
   have e:∀s,finL cnt n most s=0:=fun s=>by
    unfold finL;rw[if_neg h1,h0];rfl
   have hno:∀s,s<n->¬0<cnt s:=fun s hs h=>by
    have:=((Xr cnt n).2 s).2 ⟨hs,h⟩;rw[hnil] at this;cases this
   refine⟨fun s _=>e s,fun s a b=>absurd b (hno s a),fun s=>by rw[e];omega,fun i j _ _ _ _=>by rw[e];omega,Jh (fun s _=>e s) (fun s a b=>absurd b (hno s a)),?_⟩;rw[Ut fun s _=>e s,h0,if_pos rfl];rfl
 obtain⟨cs,k1,k2,k3,k4,k5,k6,_⟩:=YgC (cnt:=cnt) (n:=n) (most:=most) (by omega) hm hbig;have hk:=YiC (Yn cnt n).length (by omega) cs k2 k3 k4
 have hp:∀s,s<n->0<cnt s->0<finL cnt n most s:=fun s a b=>by
  obtain⟨j,hj,rfl⟩:=JS a b;rw[k5 j hj];exact Yk6 _ (by omega) cs hk j hj
 have hle:∀s,finL cnt n most s<=most:=fun s=>by
  by_cases hs:s<n/\0<cnt s
  . obtain⟨j,hj,rfl⟩:=JS hs.1 hs.2
    rw[k5 j hj];have:=Ynn cs j;omega
  rw[k6 s hs];omega
 refine⟨k6,hp,hle,fun i j hi hj hcj hij=>?_,Jh k6 hp,?_⟩
 . obtain⟨a,ha,rfl⟩:=JS (cnt:=cnt) hi (by omega)
   obtain⟨b,hb,rfl⟩:=JS (cnt:=cnt) hj hcj;rw[k5 a ha,k5 b hb];refine Ymu cs b a ?_;by_cases hab:b<=a
   . exact hab
   exfalso;have hl:=(perm_A (cnt:=cnt) (n:=n)).length_eq;have h3:=(List.pairwise_iff_getElem.1 (Ym0 (cnt:=cnt) (n:=n))) a b (by omega) (by omega) (by omega);have h4:=Yld (cnt:=cnt) (n:=n) ha;have h5:=Yld (cnt:=cnt) (n:=n) hb;have h6:((Yw ik (Yn cnt n))[a]'(by omega)).k<=((Yw ik (Yn cnt n))[b]'(by omega)).k:=h3;rw[h4,h5] at h6;omega
 rw[Ut k6,if_neg h0,if_neg h1]
 have e:YM (fun j=>pt (finL cnt n most (symA (Yw ik (Yn cnt n)) j))) (Yn cnt n).length=YM (fun j=>2^(cs.length-hC cs j)*2^(15-most)) (Yn cnt n).length:=by
  refine Xc _ _ _ fun j hj=>?_;have h3:=k5 j hj;have h4:=Ynn cs j;have h5:=Yey (cnt:=cnt) (n:=n) hj;have h6:=hp _ h5.1 h5.2;rw[h3] at h6 ⊢;unfold pt;rw[if_pos h6,<-Nat.pow_add]
  congr 1
  omega
 rw[e,YhB,hk,<-Nat.pow_add,show cs.length+(15-most)=15 by omega]
theorem Ji {cnt:Nat->Int} {n most:Nat} {L:Nat->Nat} (h:LenOK cnt n most L):parts L n<=32768/\(parts L n=32768\/YG L n=0\/YG L n=1/\parts L n=16384):=by
 rw[h.some,h.parts];by_cases h0:(Yn cnt n).length=0
 . rw[if_pos h0];omega
 rw[if_neg h0];by_cases h1:(Yn cnt n).length=1
 . rw[if_pos h1];omega
 rw[if_neg h1];omega
end
end Go.Proofs.YthehocmfpoglgaaGreat
