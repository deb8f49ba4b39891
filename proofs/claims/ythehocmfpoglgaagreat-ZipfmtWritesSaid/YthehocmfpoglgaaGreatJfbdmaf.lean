/- Texts joined: ZipO CutP RTokK WrP. Conditions: each theorem says its own. -/
import Derived.Lib.Hide
import Derived.Test.YthehocmfpoglgaaGreatJikjhbb
import Derived.Test.YthehocmfpoglgaaGreatJddomja
import Derived.Test.YthehocmfpoglgaaGreatLaw5aJ
namespace Go.Proofs.YthehocmfpoglgaaGreat
open Go.RowKit
set_option maxRecDepth 100000
noncomputable def Xo (d:ByteArray) (most:Nat):Option (ByteArray × Nat):=match Kl d most with|.error _=>none|.ok (bs,σ)=>some (⟨(X5 [] bs).toArray⟩,(8*d.size-σ.n+7)/8)
def locB (h:Hd):ByteArray:=⟨(Vj h).toArray⟩
noncomputable def JM (t:ByteArray) (h:Hd):Except Nat ByteArray:=if (t.size:Int) ≠ h.size then .error 3 else if VH 0 t.data.toList ≠ h.crc then .error 5 else .ok t
noncomputable def Ug (d:ByteArray) (h:Hd):Except Nat ByteArray:=if h.method=0 then JM d h else if h.method=8 then (match Xo d h.size.toNat with|none=>.error 3|some (t,n)=>if n=d.size then JM t h else .error 3) else .error 12
noncomputable def YbU (u:ByteArray) (h:Hd):Except Nat ByteArray:=if (u.size:Int)<h.packed then .error 3 else if 65536<h.size then .error 2 else Ug (u.extract 0 h.packed.toNat) h
noncomputable def YbV (r:ByteArray) (h:Hd):Except Nat ByteArray:=if r.size<(locB h).size\/r.extract 0 (locB h).size ≠ locB h then .error 3 else YbU (r.extract (locB h).size r.size) h
noncomputable def Xn (s:ByteArray) (h:Hd):Except Nat ByteArray:=if h.place<0\/(s.size:Int)<h.place\/h.packed<0\/h.size<0 then .error 1 else YbV (s.extract h.place.toNat s.size) h
noncomputable def Xm (s:ByteArray):List Hd->Nat->List Fl->Except Nat (List Fl × Nat)
 |[],p,out=>.ok (out,p)
 |h::r,p,out=>match Xn s h with
  |.error e=>.error e
  |.ok t=>if h.place ≠ (p:Int) then .error 3 else Xm s r (p+30+h.name.size+h.packed.toNat) (out++[(h.name,t)])
noncomputable def V9 (s:ByteArray):Except Nat (List Fl):=
 match Yv s with
 |.error e=>.error e
 |.ok l=>match Xm s l 0 [] with
  |.error e=>.error e
  |.ok (out,p)=>if p ≠ atN s (s.size-22+16) 4 then .error 3 else .ok out
structure Part where
 h:Hd
 d:ByteArray
 x:ByteArray
def Xv (p:Part):List UInt8:=Vj p.h++p.d.data.toList
def YH (P:List Part):List UInt8:=P.flatMap Xv
def Ur:Nat->List Part->Prop
 |_,[]=>True
 |n,p::r=>p.h.place=(n:Int)/\p.h.packed=(p.d.size:Int)/\p.h.Fit/\Ur (n+30+p.h.name.size+p.d.size) r
def Vd (P:List Part):List UInt8:=YH P++YJ (P.map Part.h) ((YH P).length:Int)
theorem VS (h:Hd):(Vj h).length=30+h.name.size:=by
 unfold Vj;have:h.name.data.toList.length=h.name.size:=by simp
 rw[List.length_append,List.length_append,XD,this];show 4+26+_=_;omega
theorem Ki (h:Hd):(locB h).size=30+h.name.size:=by
 show(Vj h).toArray.size=_;rw[List.size_toArray,VS]
theorem V6 (p:Part):(Xv p).length=30+p.h.name.size+p.d.size:=by
 unfold Xv;have:p.d.data.toList.length=p.d.size:=by simp
 rw[List.length_append,VS,this]
theorem Ybb:∀(P:List Part) (n:Nat),Ur n P->∀h ∈ P.map Part.h,h.Fit:=by
 intro P
 induction P with
 |nil=>intro n _ h hh;cases hh
 |cons p r ih=>
  rintro n ⟨_,_,h3,h4⟩ h hh;rw[List.map_cons,List.mem_cons] at hh;rcases hh with rfl|hh
  . exact h3
  exact ih _ h4 h hh
theorem UX (s:ByteArray) (a:Nat):(s.extract a s.size).data.toList=s.data.toList.drop a:=by
 have hl:s.data.toList.length=s.size:=by simp
 rw[VO,List.take_of_length_le (by rw[List.length_drop];omega)]
theorem YcW {s:ByteArray} {p q:List UInt8} {h:Hd} {d x:ByteArray} (hs:s.data.toList=p++(Vj h++d.data.toList++q)) (hp:h.place=(p.length:Int)) (hk:h.packed=(d.size:Int)) (hz:0<=h.size) (hz2:h.size<=65536) (hx:Ug d h=.ok x):Xn s h=.ok x:=by
 have hl:s.data.toList.length=s.size:=by simp
 have hd:d.data.toList.length=d.size:=by simp
 have hsz:s.size=p.length+(30+h.name.size+d.size+q.length):=by rw[<-hl,hs];simp only[List.length_append,VS,hd]
 unfold Xn;rw[if_neg (by omega),hp,Int.toNat_natCast];have hr:(s.extract p.length s.size).data.toList=Vj h++d.data.toList++q:=by rw[UX,hs,List.drop_left]
 generalize s.extract p.length s.size=r at hr;have hrl:r.data.toList.length=r.size:=by simp
 have hrz:r.size=30+h.name.size+d.size+q.length:=by rw[<-hrl,hr];simp only[List.length_append,VS,hd]
 have hlb:(locB h).data.toList=Vj h:=rfl
 have he:r.extract 0 (locB h).size=locB h:=by
  have:=YaD (s:=r) (i:=0) (p:=[]) (m:=locB h) (q:=d.data.toList++q) (by rw[hr,hlb];simp only[List.nil_append,List.append_assoc]) rfl
  rwa [Nat.zero_add] at this
 unfold YbV
 rw[if_neg (by
  rw[Ki];intro g;rcases g with g|g;· omega
  . rw[Ki] at he;exact g he)]
 have hu:(r.extract (locB h).size r.size).data.toList=d.data.toList++q:=by
  rw[UX,hr,List.append_assoc,Ki,<-VS,List.drop_left]
 generalize r.extract (locB h).size r.size=u at hu;have hul:u.data.toList.length=u.size:=by simp
 have huz:u.size=d.size+q.length:=by rw[<-hul,hu,List.length_append,hd]
 have hue:u.extract 0 d.size=d:=by
  have:=YaD (s:=u) (i:=0) (p:=[]) (m:=d) (q:=q) (by rw[hu];simp only[List.nil_append]) rfl
  rwa [Nat.zero_add] at this
 unfold YbU;rw[if_neg (by omega),if_neg (by omega),hk,Int.toNat_natCast,hue];exact hx
theorem Ykm {s:ByteArray} {h:Hd} {x:ByteArray} (ho:Xn s h=.ok x):0<=h.place/\0<=h.packed/\∃q,s.data.toList.drop h.place.toNat=Vj h++q/\h.packed<=(q.length:Int)/\h.place.toNat<=s.size:=by
 unfold Xn at ho;by_cases c1:h.place<0\/(s.size:Int)<h.place\/h.packed<0\/h.size<0
 . rw[if_pos c1] at ho;cases ho
 rw[if_neg c1] at ho;have hr:=UX s h.place.toNat;generalize s.extract h.place.toNat s.size=r at hr ho;unfold YbV at ho;by_cases c2:r.size<(locB h).size\/r.extract 0 (locB h).size ≠ locB h
 . rw[if_pos c2] at ho;cases ho
 rw[if_neg c2] at ho;have c22:r.extract 0 (locB h).size=locB h:=Classical.byContradiction fun g=>c2 (.inr g);have hu:=UX r (locB h).size;have hrl:r.data.toList.length=r.size:=by simp
 have e1:r.data.toList.take (locB h).size=Vj h:=by
  have:=congrArg (fun b:ByteArray=>b.data.toList) c22;rw[VO,List.drop_zero,Nat.sub_zero] at this;exact this
 generalize r.extract (locB h).size r.size=u at hu ho;unfold YbU at ho;by_cases c3:(u.size:Int)<h.packed
 . rw[if_pos c3] at ho;cases ho
 have hul:u.data.toList.length=u.size:=by simp
 refine⟨by omega,by omega,u.data.toList,?_,by omega,by omega⟩;rw[<-hr,<-e1,hu,List.take_append_drop]
theorem YhR (s:ByteArray):∀(P:List Part) (p q:List UInt8) (out:List Fl),s.data.toList=p++(YH P++q)->Ur p.length P->(∀c ∈ P,Ug c.d c.h=.ok c.x/\c.h.size<=65536)->Xm s (P.map Part.h) p.length out=.ok (out++P.map (fun c=>(c.h.name,c.x)),p.length+(YH P).length):=by
 intro P
 induction P with
 |nil=>intro p q out _ _ _;simp[Xm,YH]
 |cons c r ih=>
  intro p q out hs hpl ho;obtain⟨h1,h2,h3,h4⟩:=hpl;obtain⟨o1,o2⟩:=ho c (List.mem_cons_self ..);have e1:YH (c::r)=Xv c++YH r:=rfl;have hop:Xn s c.h=.ok c.x:=YcW (p:=p) (q:=YH r++q) (by rw[hs,e1];unfold Xv;simp only[List.append_assoc]) h1 h2 h3.2.2.2.1.1 o2 o1;have:=ih (p++Xv c) q (out++[(c.h.name,c.x)]) (by rw[hs,e1];simp only[List.append_assoc]) (by rw[List.length_append,V6,<-Nat.add_assoc,<-Nat.add_assoc];exact h4) fun x hx=>ho x (List.mem_cons_of_mem _ hx);rw[List.length_append,V6] at this;rw[List.map_cons,Xm,hop];dsimp only;rw[if_neg (fun g=>g h1),h2,Int.toNat_natCast,show p.length+30+c.h.name.size+c.d.size=p.length+(30+c.h.name.size+c.d.size) by omega,this,e1,List.length_append,V6];simp[Nat.add_assoc]
theorem YhT {s:ByteArray} {P:List Part} (hs:s.data.toList=Vd P) (hsz:s.size<=262144) (hP:Ur 0 P) (hn:Vx ⟨#[]⟩ (P.map Part.h)=true) (hc:P.length<=200) (ho:∀c ∈ P,Ug c.d c.h=.ok c.x/\c.h.size<=65536) :
 Yv s=.ok (P.map Part.h)/\V9 s=.ok (P.map fun c=>(c.h.name,c.x)):=by
 have h1:Yv s=.ok (P.map Part.h):=by
  rw[Ybo hs hsz (Ybb P 0 hP),hn,if_neg (by decide),if_neg (by rw[List.length_map];omega)]
 refine⟨h1,?_⟩;obtain⟨_,_,_,_,p,g1,g2⟩:=XO h1;have h2:=YhR s P [] (YJ (P.map Part.h) ((YH P).length:Int)) [] (by rw[hs];rfl) hP ho;have hlen:=congrArg List.length g1;rw[hs] at hlen;unfold Vd at hlen;rw[List.length_append,List.length_append,YZ,YZ] at hlen;unfold V9;rw[h1];dsimp only
 have h3:Xm s (P.map Part.h) 0 []=.ok (P.map (fun c=>(c.h.name,c.x)),(YH P).length):=by
  have:=h2
  simpa using this
 rw[h3];dsimp only;rw[g2,if_neg (by omega)]
noncomputable def begB (s p:ByteArray):Bool:=decide (p.size<=s.size)&&(s.extract 0 p.size).toList==p.toList
theorem Ygy (s p:ByteArray) (w:World):Calls Tryz.prog 70 #[.string s,.string p] w fun e w'=>e=.returned (.bool (begB s p))/\w=w':=by
 have hb:Hid (begB s p=(decide (p.size<=s.size)&&(s.extract 0 p.size).toList==p.toList)):=rfl;by_cases h:p.size<=s.size
 . have h1:decide ((s.size:Int) ≥ (p.size:Int))=true:=Qg (by omega)
   have h2:decide (p.size<=s.size)=true:=Qg (by omega);have h3:(p.size:Int)<=(s.size:Int):=by omega
   go_enter Tryz.func70,Tryz.ntmps70;go_wp2_with fail;go_ret;exact⟨by rw[hb.out,h2,Bool.true_and];rfl,rfl⟩
 have h1:decide ((s.size:Int) ≥ (p.size:Int))=false:=Qh (by omega);have h2:decide (p.size<=s.size)=false:=Qh (by omega);have h3:¬(p.size:Int)<=(s.size:Int):=by omega
 go_enter Tryz.func70,Tryz.ntmps70;go_wp2_with fail;go_ret;exact⟨by rw[hb.out,h2,Bool.false_and];rfl,rfl⟩
theorem YkT (s p:ByteArray) (w:World):Calls Tryz.prog 49 #[.string s,.string p] w fun e w'=>e=.returned (.tuple (if begB s p=true then #[.string (s.extract p.size s.size),.bool true] else #[.string s,.bool false]))/\w=w':=by
 have C:=Qf (Ygy s p)
 have hb:Hid (begB s p=true->p.size<=s.size):=fun h=>by
  unfold begB at h;rw[Bool.and_eq_true,decide_eq_true_eq] at h;exact h.1
 obtain⟨b,Hb⟩:=Qi (begB s p);rw[Hb.out] at C hb ⊢
 cases b with
 |false=>
  go_enter Tryz.func49,Tryz.ntmps49;go_wp2_with fail;refine(C.out _).mono ?_;rintro e w1 ⟨rfl,rfl⟩;go_wp2_with fail;go_ret2;exact⟨rfl,rfl⟩
 |true=>
  have h1:=hb.out rfl;have h2:(p.size:Int)<=(s.size:Int):=by omega
  clear hb;go_enter Tryz.func49,Tryz.ntmps49;go_wp2_with fail;refine(C.out _).mono ?_;rintro e w1 ⟨rfl,rfl⟩;go_wp2_with fail;go_ret2;exact⟨rfl,rfl⟩
theorem YkS (s p:ByteArray) (w:World):Calls Tryz.prog 33 #[.string s,.string p] w fun e w'=>e=.returned (.tuple (if begB s p=true then #[.string (s.extract p.size s.size),.bool true] else #[.string s,.bool false]))/\w=w':=by
 have C:=Qf (YkT s p);obtain⟨b,Hb⟩:=Qi (begB s p);rw[Hb.out] at C ⊢
 cases b with
 |false=>
  have C2:=Qf (fun W=>(C.out W));simp only[Bool.false_eq_true,if_false] at C2 ⊢;clear C;go_enter Tryz.func33,Tryz.ntmps33;go_wp2_with fail;refine(C2.out _).mono ?_;rintro e w1 ⟨rfl,rfl⟩;go_wp2_with fail;go_ret2;exact⟨rfl,rfl⟩
 |true=>
  have C2:=Qf (fun W=>(C.out W));simp only[if_true] at C2 ⊢;clear C;go_enter Tryz.func33,Tryz.ntmps33;go_wp2_with fail;refine(C2.out _).mono ?_;rintro e w1 ⟨rfl,rfl⟩;go_wp2_with fail;go_ret2;exact⟨rfl,rfl⟩
theorem Ylu (R P:Nat) (s:ByteArray) (p z most k:Nat) (hk:k<=16) (hs:s.size<=100000) (hp:p<=8*s.size) (w:World) (hR:RdAt w R P s p z most 0) :
 Calls Tryz.prog 72 #[.pointer (some ⟨R,0,none⟩),.int .i64 (k:Int)] w fun r w'=>∃v:Nat,v<2^k/\v<65536/\r=.returned (.int .i64 (v:Int))/\Rch R P w w'/\
  ((Yy k (sg s p z)=.error 6/\RdAt w' R P s (p+k) z most 6/\(8*s.size-p=0->v=0)/\v<2^(8*s.size-p))\/(Yy k (sg s p z)=.ok (v,sg s (p+k) z)/\p+k<=8*s.size/\RdAt w' R P s (p+k) z most 0)):=by
 refine(VP R P s p z most 0 k hk hs (by omega) w hR).mono ?_;rintro r w' ⟨rfl,hR',hC⟩;refine⟨YI s p k,Nat.mod_lt _ (Nat.two_pow_pos k),Kq s p k hk,rfl,hC,?_⟩;unfold Y5 at hR';by_cases h:8*s.size<p+k
 . rw[if_pos h] at hR'
   have hlt:YI s p k<2^(8*s.size-p):=by
    unfold YI
    have h1:num s/2^p<2^(8*s.size-p):=by
     have h2:num s<2^(8*s.size):=by
      have:=Uj s.data.toList;rw[Nat.pow_mul];unfold num
      simpa using this
     rw[Nat.div_lt_iff_lt_mul (Nat.two_pow_pos p),<-Nat.pow_add,show 8*s.size-p+p=8*s.size by omega];exact h2
    exact Nat.lt_of_le_of_lt (Nat.mod_le _ _) h1
   refine .inl ⟨XA s p z k hp h,hR',fun h0=>?_,hlt⟩;rw[h0] at hlt;have:(2:Nat)^0=1:=rfl;omega
 rw[if_neg h] at hR';exact .inr ⟨Ycj s p z k (by omega),by omega,hR'⟩
theorem YbG (L:Nat->Nat) (n:Nat) (hL:∀i,i<n->L i<=15) (hn:n<=400) (T g N cap:Nat) (B:Nat->Nat->Int) (pv pn:Nat->Nat) (hG:Grown (YD L n) L (XR L n) B N pv pn)
 (R P:Nat) (s:ByteArray) (p z most:Nat) (hs:s.size<=100000) (hp:p<=8*s.size) (hTP:T ≠ P) (hgP:g ≠ P) (w:World) (hA:TreeAt w T g N cap B) (hR:RdAt w R P s p z most 0) :
 Calls Tryz.prog 100 #[.pointer (some ⟨R,0,none⟩),.pointer (some ⟨T,0,none⟩)] w fun r w'=>∃(v p':Nat),r=.returned (.int .i64 (v:Int))/\Rch R P w w'/\p<p'/\p'<=p+16/\
  ((∃e,e ≠ 0/\symM L n (sg s p z)=.error e/\RdAt w' R P s p' z most e/\v=0)\/(symM L n (sg s p z)=.ok (v,sg s p' z)/\p'<=8*s.size/\v<n/\RdAt w' R P s p' z most 0)):=by
 refine(Yhw L n (fun i h=>hL i h.1) hn T g N cap B pv pn hG R P s p z most hs (by omega) hTP hgP w hA hR).mono ?_;rintro r w' ⟨sym,err,taken,rfl,hN,ht,hR',hC⟩;have h1:=hN.1;have hN2:=hN.rest hp;have hnr:=YbY L n hL hN2
 have hsy:symM L n (sg s p z)=if err=0 then .ok (sym,sg s (p+taken) z) else .error err:=by
  unfold symM;have e1:(sg s p z).X=num s/2^p:=rfl;have e2:(sg s p z).n=8*s.size-p:=rfl;rw[e1,e2,hnr];by_cases h0:err=0
  . rw[if_pos h0,if_pos h0]
    unfold sg;have e3:num s/2^p/2^taken=num s/2^(p+taken):=(by rw[Nat.div_div_eq_div_mul,<-Nat.pow_add]);have e4:8*s.size-p-taken=8*s.size-(p+taken):=(by omega);simp only[e3,e4]
  rw[if_neg h0,if_neg h0]
 refine⟨sym,p+taken,rfl,hC,by omega,by omega,?_⟩;by_cases h0:err=0
 . subst h0
   rw[if_pos rfl] at hsy;rcases hN.2.2 with⟨_,h,_⟩|⟨_,_,h,_⟩|⟨h2,h3,_⟩
   . cases h
   . cases h
   exact .inr ⟨hsy,h2,h3.1,hR'⟩
 rw[if_neg h0] at hsy;refine .inl ⟨err,h0,hsy,hR',?_⟩;rcases hN.2.2 with⟨_,_,h⟩|⟨_,_,_,h⟩|⟨_,_,_,_,h⟩
 . exact h
 . exact h
 exact absurd h h0
section
variable {R P:Nat} {w w':World}
theorem Rch.then_below {w0:World} {B:Nat} (h:Rch R P w0 w) (hb:Below B w w') (hB:w0.heap.size<=B):Rch R P w0 w':=
 ⟨hb.os.trans h.1,hb.tape.trans h.2.1,hb.output.trans h.2.2.1,Qe h.2.2.2.1 hb.size,fun g hg h1 h2=>(hb.block g (by omega)).trans (h.2.2.2.2 g hg h1 h2)⟩
theorem Rch.cell (h:Rch R P w w') {b off:Nat} (hb:b<w.heap.size) (h1:b ≠ R) (h2:b ≠ P):w'.cell? ⟨b,off,none⟩=w.cell? ⟨b,off,none⟩:=by
 unfold World.cell?;rw[h.2.2.2.2 b hb h1 h2]
theorem TreeAt.rch {T g N cap:Nat} {B:Nat->Nat->Int} (h:TreeAt w T g N cap B) (hc:Rch R P w w') (h1:T ≠ R) (h2:T ≠ P) (h3:g ≠ R) (h4:g ≠ P):TreeAt w' T g N cap B:=
 ⟨hc.blk h.1 h1 h2,Qb h.2.1 hc.2.2.2.1,fun a b ha hb=>(hc.cell h.2.1 h3 h4).trans (h.2.2 a b ha hb)⟩
theorem Ku {base e size n:Nat} {v:Value} {xs:List Value} (h:w.ownsRow base e size v n xs) (hc:Rch R P w w') (h1:R<base) (h2:P<base):w'.ownsRow base e size v n xs:=by
 refine⟨h.1,?_⟩;rcases h.2 with h|⟨g,cap,cur,a1,a2,a3,a4⟩
 . exact .inl h
 refine .inr ⟨g,cap,cur,a1,a2,?_,a4⟩
 have hlt:g<w.heap.size:=by
  rcases Nat.lt_or_ge g w.heap.size with h|h
  . exact h
  rw[Array.getElem?_eq_none h] at a3;cases a3
 exact(hc.2.2.2.2 g hlt (by omega) (by omega)).trans a3
theorem OwnK.rch {base e:Nat} {v:Value} {S:List Tok} (h:OwnK e w base v S) (hc:Rch R P w w') (h1:R<base) (h2:P<base):OwnK e w' base v S:=Ku h hc h1 h2
theorem IRow.rch {a:Option Addr} {n:Nat} {m:Nat->Int} (h:IRow w a n m) (hc:Rch R P w w') (h1:∀b off sp,a=some ⟨b,off,sp⟩->b ≠ R/\b ≠ P):IRow w' a n m:=by
 rcases h with h|⟨b,off,e,hb,hcell⟩
 . exact .inl h
 obtain⟨h2,h3⟩:=h1 b off none e;exact .inr ⟨b,off,e,Qb hb hc.2.2.2.1,fun i hi=>(hc.cell hb h2 h3).trans (hcell i hi)⟩
end
theorem YdG:∀i:Nat,i<=28->3<=(Yl false (i:Int)).1/\(Yl false (i:Int)).1<=258/\(Yl false (i:Int)).2<=5:=by decide
theorem YfU:∀i:Nat,i<=29->1<=(Yl true (i:Int)).1/\(Yl true (i:Int)).1<=24577/\(Yl true (i:Int)).2<=13:=by decide
theorem YdH (i:Int) (h:28<i):Yl false i=(0,0):=by unfold Yl;rw[if_neg (by decide),if_pos (.inr h)]
theorem YfV (i:Int) (h:29<i):Yl true i=(0,0):=by unfold Yl;rw[if_pos rfl,if_pos (.inr h)]
def YQ (D:ByteArray->ByteArray) (f:Fl) (n:Nat):Part:=
 if (D f.2).size<f.2.size then ⟨⟨f.1,8,VH 0 f.2.data.toList,((D f.2).size:Int),(f.2.size:Int),(n:Int)⟩,D f.2,f.2⟩
 else ⟨⟨f.1,0,VH 0 f.2.data.toList,(f.2.size:Int),(f.2.size:Int),(n:Int)⟩,f.2,f.2⟩
def YS (D:ByteArray->ByteArray):List Fl->Nat->List Part
 |[],_=>[]
 |f::r,n=>YQ D f n::YS D r (n+(Xv (YQ D f n)).length)
noncomputable def XE (D:ByteArray->ByteArray) (L:List Fl):Except Nat ByteArray:=
 if chkF L ≠ 0 then .error (chkF L) else if 262144<(Vd (YS D L 0)).length then .error 2 else .ok ⟨(Vd (YS D L 0)).toArray⟩
theorem Uw:∀(L:List Fl) (last:ByteArray),chkL last L=0->∀f ∈ L,f.2.size<=65536/\nmB f.1=true:=by
 intro L
 induction L with
 |nil=>intro _ _ f hf;cases hf
 |cons g r ih=>
  intro last h f hf;rw[chkL] at h;by_cases c1:65536<g.2.size
  . rw[if_pos c1] at h;cases h
  rw[if_neg c1] at h;by_cases c2:(!nmB g.1||Xy g.1 last)=true
  . rw[if_pos c2] at h;cases h
  rw[if_neg c2] at h;rw[List.mem_cons] at hf;rcases hf with rfl|hf
  . refine⟨by omega,?_⟩
    cases hb:nmB f.1
    . rw[hb] at c2;simp at c2
    rfl
  exact ih _ h f hf
theorem KT {L:List Fl} (h:chkF L=0):L.length<=200/\chkL ⟨#[]⟩ L=0:=by
 unfold chkF at h;by_cases c:200<L.length
 . rw[if_pos c] at h;cases h
 rw[if_neg c] at h;exact⟨by omega,h⟩
theorem JV {s:ByteArray} (h:nmB s=true):s.size<=64:=by
 unfold nmB at h
 classical
 have h2:nmOK s:=by simpa using h
 exact h2.2.1
theorem XM (D:ByteArray->ByteArray) (f:Fl) (n:Nat):(YQ D f n).h.name=f.1/\(YQ D f n).x=f.2/\(YQ D f n).h.size=(f.2.size:Int)/\(YQ D f n).h.crc=VH 0 f.2.data.toList:=by
 unfold YQ;split<;>exact⟨rfl,rfl,rfl,rfl⟩
theorem Jb (D:ByteArray->ByteArray) (f:Fl) (n:Nat):(Xv (YQ D f n)).length<=30+f.1.size+f.2.size:=by
 rw[V6];unfold YQ;split
 . dsimp only;omega
 exact Qa _
theorem YgU (D:ByteArray->ByteArray):∀(L:List Fl) (last:ByteArray) (n:Nat),chkL last L=0->Vx last ((YS D L n).map Part.h)=true:=by
 intro L
 induction L with
 |nil=>intro _ _ _;rfl
 |cons g r ih=>
  intro last n h;rw[chkL] at h;by_cases c1:65536<g.2.size
  . rw[if_pos c1] at h;cases h
  rw[if_neg c1] at h;by_cases c2:(!nmB g.1||Xy g.1 last)=true
  . rw[if_pos c2] at h;cases h
  rw[if_neg c2] at h;rw[YS,List.map_cons,Vx,(XM D g n).1,if_neg c2];exact ih _ _ h
theorem Yan (D:ByteArray->ByteArray):∀(L:List Fl) (n:Nat),(YS D L n).length=L.length:=by
 intro L
 induction L with
 |nil=>intro _;rfl
 |cons g r ih=>intro n;rw[YS,List.length_cons,List.length_cons,ih]
theorem YdU (D:ByteArray->ByteArray):∀(L:List Fl) (n:Nat),(YS D L n).map (fun c=>(c.h.name,c.x))=L:=by
 intro L
 induction L with
 |nil=>intro _;rfl
 |cons g r ih=>
  intro n;obtain⟨h1,h2,_⟩:=XM D g n;rw[YS,List.map_cons,ih,h1,h2]
theorem Yi8 (l:List UInt8):VH 0 l<4294967296:=by unfold VH;omega
theorem JE (D:ByteArray->ByteArray):∀(L:List Fl) (n:Nat),(∀f ∈ L,f.2.size<=65536/\f.1.size<=64)->n+65700*L.length<4294967296->Ur n (YS D L n):=by
 intro L
 induction L with
 |nil=>intro _ _ _;trivial
 |cons g r ih=>
  intro n hf hn;obtain⟨g1,g2⟩:=hf g (List.mem_cons_self ..);have hl:=Jb D g n;rw[List.length_cons] at hn;have hi:=ih (n+(Xv (YQ D g n)).length) (fun x hx=>hf x (List.mem_cons_of_mem _ hx)) (by omega);rw[V6] at hi;rw[YS];refine⟨?_,?_,?_,?_⟩
  . unfold YQ;split<;>rfl
  . unfold YQ;split<;>rfl
  . have hc:=Yi8 g.2.data.toList
    unfold YQ;split
    . exact⟨⟨by show(0:Int)<=8;decide,by show(8:Int)<_;decide⟩,hc,⟨by dsimp only;omega,by dsimp only;omega⟩,⟨by dsimp only;omega,by dsimp only;omega⟩,⟨by dsimp only;omega,by dsimp only;omega⟩,by dsimp only;omega⟩
    exact⟨⟨by show(0:Int)<=0;decide,by show(0:Int)<_;decide⟩,hc,⟨by dsimp only;omega,by dsimp only;omega⟩,⟨by dsimp only;omega,by dsimp only;omega⟩,⟨by dsimp only;omega,by dsimp only;omega⟩,by dsimp only;omega⟩
  have e:n+30+(YQ D g n).h.name.size+(YQ D g n).d.size=n+(30+(YQ D g n).h.name.size+(YQ D g n).d.size):=by omega
  rw[e,V6];exact hi
theorem YeU {x:ByteArray} {h:Hd} (h1:h.size=(x.size:Int)) (h2:h.crc=VH 0 x.data.toList):JM x h=.ok x:=by
 unfold JM;rw[if_neg (fun g=>g h1.symm),if_neg (fun g=>g h2.symm)]
theorem YcX {x:ByteArray} {h:Hd} (h0:h.method=0) (h1:h.size=(x.size:Int)) (h2:h.crc=VH 0 x.data.toList):Ug x h=.ok x:=by
 unfold Ug;rw[if_pos h0,YeU h1 h2]
theorem YaO {d x:ByteArray} {h:Hd} (h0:h.method=8) (h1:h.size=(x.size:Int)) (h2:h.crc=VH 0 x.data.toList) (h3:Xo d x.size=some (x,d.size)):Ug d h=.ok x:=by
 unfold Ug;rw[if_neg (by rw[h0];decide),if_pos h0,h1,Int.toNat_natCast,h3];dsimp only;rw[if_pos rfl,YeU h1 h2]
theorem YdT (D:ByteArray->ByteArray) (f:Fl) (n:Nat) (hD:(D f.2).size<f.2.size->Xo (D f.2) f.2.size=some (f.2,(D f.2).size)):Ug (YQ D f n).d (YQ D f n).h=.ok (YQ D f n).x:=by
 unfold YQ;split
 . next h=>exact YaO rfl rfl rfl (hD h)
 exact YcX rfl rfl rfl
theorem Ybd (D:ByteArray->ByteArray):∀(L:List Fl) (n:Nat),(∀f ∈ L,f.2.size<=65536/\((D f.2).size<f.2.size->Xo (D f.2) f.2.size=some (f.2,(D f.2).size)))->∀c ∈ YS D L n,Ug c.d c.h=.ok c.x/\c.h.size<=65536:=by
 intro L
 induction L with
 |nil=>intro _ _ c hc;cases hc
 |cons g r ih=>
  intro n hD c hc;obtain⟨h1,h2⟩:=hD g (List.mem_cons_self ..);rw[YS,List.mem_cons] at hc;rcases hc with rfl|hc
  . refine⟨YdT D g n h2,?_⟩
    rw[(XM D g n).2.2.1];omega
  exact ih _ (fun x hx=>hD x (List.mem_cons_of_mem _ hx)) c hc
theorem U0 {D:ByteArray->ByteArray} {L:List Fl} {s:ByteArray} (h:XE D L=.ok s) (hD:∀f ∈ L,(D f.2).size<f.2.size->Xo (D f.2) f.2.size=some (f.2,(D f.2).size)) :
 Yv s=.ok ((YS D L 0).map Part.h)/\V9 s=.ok L/\s.data.toList=Vd (YS D L 0)/\Ur 0 (YS D L 0)/\s.size<=262144:=by
 unfold XE at h;by_cases c1:chkF L ≠ 0
 . rw[if_pos c1] at h;cases h
 rw[if_neg c1] at h;have c1:chkF L=0:=Classical.byContradiction fun g=>c1 g;by_cases c2:262144<(Vd (YS D L 0)).length
 . rw[if_pos c2] at h;cases h
 rw[if_neg c2] at h;injection h with h;subst h;obtain⟨k1,k2⟩:=KT c1;have k3:=Uw L _ k2;have hp:Ur 0 (YS D L 0):=JE D L 0 (fun f hf=>⟨(k3 f hf).1,JV (k3 f hf).2⟩) (by omega)
 have hz:(⟨(Vd (YS D L 0)).toArray⟩:ByteArray).size<=262144:=by show(Vd (YS D L 0)).toArray.size<=_;rw[List.size_toArray];omega
 obtain⟨r1,r2⟩:=YhT (s:=⟨(Vd (YS D L 0)).toArray⟩) (P:=YS D L 0) rfl hz hp (YgU D L _ 0 k2) (by rw[Yan];exact k1) (Ybd D L 0 fun f hf=>⟨(k3 f hf).1,hD f hf⟩);rw[YdU] at r2;exact⟨r1,r2,rfl,hp,hz⟩
end Go.Proofs.YthehocmfpoglgaaGreat
