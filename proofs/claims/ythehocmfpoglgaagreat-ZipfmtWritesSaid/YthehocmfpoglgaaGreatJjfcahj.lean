/- Texts joined: SortD SortE LenW Cat2 LenV. Conditions: each theorem says its own. -/
import Derived.Deep.AppendLies
import Derived.Laws.AppendOwnNone
import Derived.Test.YthehocmfpoglgaaGreatSortAJ
import Derived.Test.YthehocmfpoglgaaGreatSortCJ
import Derived.Test.YthehocmfpoglgaaGreatJjfkkml
import Derived.Test.YthehocmfpoglgaaGreatJikjhbb
import Derived.Test.YthehocmfpoglgaaGreatJddomja
namespace Go.Proofs.YthehocmfpoglgaaGreat
open Go.RowKit
set_option maxRecDepth 100000
def Parts (x y:Nat->Pr) (z n:Nat):Prop:=∀i,i*z<n->seg y (i*z) (min ((i+1)*z) n)=Yw pk (seg x (i*z) (min ((i+1)*z) n))
theorem Ygq {x y:Nat->Pr} {a m b:Nat} (h1:a<=m) (h2:m<=b) (k1:seg y a m=Yw pk (seg x a m)) (k2:seg y m b=Yw pk (seg x m b)):mrg pk (seg y a m) (seg y m b)=Yw pk (seg x a b):=by
 rw[k1,k2,Vu x a m b h1 h2,Yc3]
theorem UL {x y:Nat->Pr} {a b c d:Nat} (h:∀p,(p<a\/b<=p)->y p=x p) (hd:d<=a\/b<=c):seg y c d=seg x c d:=
 Y7 _ _ _ _ _ _ rfl fun k hk=>h _ (by omega)
def Done (x y:Nat->Pr) (z _n k:Nat):Prop:=(∀i,i<k->seg y (i*z) ((i+1)*z)=Yw pk (seg x (i*z) ((i+1)*z)))/\∀p,k*z<=p->y p=x p
theorem Done.step {x y y':Nat->Pr} {z n k:Nat} (h:Done x y z n k) (h1:seg y' (k*z) ((k+1)*z)=Yw pk (seg y (k*z) ((k+1)*z))) (h2:∀p,(p<k*z\/(k+1)*z<=p)->y' p=y p):Done x y' z n (k+1):=by
 have e:(k+1)*z=k*z+z:=Nat.succ_mul k z;refine⟨fun i hi=>?_,fun p hp=>?_⟩
 . by_cases ei:i=k
   . subst ei
     rw[h1]
     congr 1
     exact Y7 _ _ _ _ _ _ rfl fun t ht=>h.2 _ (by omega)
   have hle:(i+1)*z<=k*z:=Nat.mul_le_mul_right z (by omega);rw[<-h.1 i (by omega)];exact UL h2 (.inl hle)
 rw[h2 p (.inr hp)];exact h.2 p (by omega)
theorem Done.last {x y y':Nat->Pr} {z n k:Nat} (h:Done x y z n k) (hk:k*z<=n) (hn:n<(k+1)*z) (h1:seg y' (k*z) n=Yw pk (seg y (k*z) n)) (h2:∀p,(p<k*z\/n<=p)->y' p=y p):Parts x y' z n/\∀p,n<=p->y' p=x p:=by
 refine⟨fun i hi=>?_,fun p hp=>?_⟩
 . by_cases ei:i=k
   . subst ei
     rw[Nat.min_eq_right (by omega),h1]
     congr 1
     exact Y7 _ _ _ _ _ _ rfl fun t ht=>h.2 _ (by omega)
   have hik:i<k:=by
    by_cases e:i<k
    . exact e
    have:(k+1)*z<=i*z:=Nat.mul_le_mul_right z (by omega);omega
   have hle:(i+1)*z<=k*z:=Nat.mul_le_mul_right z (by omega);rw[Nat.min_eq_left (by omega),<-h.1 i hik];exact UL h2 (.inl hle)
 rw[h2 p (.inr hp)];exact h.2 p (by omega)
def Joined (x y:Nat->Pr) (z n k:Nat):Prop:=(∀i,i<k->seg y (i*(2*z)) ((i+1)*(2*z))=Yw pk (seg x (i*(2*z)) ((i+1)*(2*z))))/\
 (∀i,2*k<=i->i*z<n->seg y (i*z) (min ((i+1)*z) n)=Yw pk (seg x (i*z) (min ((i+1)*z) n)))/\∀p,n<=p->y p=x p
theorem Joined.begin {x y:Nat->Pr} {z n:Nat} (h:Parts x y z n) (h2:∀p,n<=p->y p=x p):Joined x y z n 0:=⟨fun i hi=>by omega,fun i _ hi=>h i hi,h2⟩
theorem Joined.two {x y:Nat->Pr} {z n k:Nat} (h:Joined x y z n k) (a m b:Nat) (ha:a=2*k*z) (hm:m=a+z) (hb:b<=n) (hbz:b<=m+z) (hz:m<b) (hbb:b=m+z\/b=n):Srt pk (seg y a m)/\Srt pk (seg y m b)/\mrg pk (seg y a m) (seg y m b)=Yw pk (seg x a b):=by
 have e1:(2*k+1)*z=m:=by rw[Nat.succ_mul,hm,ha]
 have e2:(2*k+1+1)*z=m+z:=by rw[Nat.succ_mul,e1]
 have k1:=h.2.1 (2*k) (Qa _) (by omega);have k2:=h.2.1 (2*k+1) (by omega) (by omega);rw[e1,<-ha,Nat.min_eq_left (by omega)] at k1;rw[e1,e2,show min (m+z) n=b by omega] at k2;refine⟨by rw[k1];exact KQ pk _,by rw[k2];exact KQ pk _,Ygq (by omega) (by omega) k1 k2⟩
theorem Joined.step {x y y':Nat->Pr} {z n k a m b:Nat} (h:Joined x y z n k) (ha:a=2*k*z) (hm:m=a+z) (hb:b=m+z) (hbn:b<=n) (hz:0<z) (h1:seg y' a b=mrg pk (seg y a m) (seg y m b)) (h2:∀p,(p<a\/b<=p)->y' p=y p):Joined x y' z n (k+1):=by
 obtain⟨_,_,k3⟩:=h.two a m b ha hm hbn (by omega) (by omega) (.inl hb);have ea:k*(2*z)=a:=by rw[ha,Nat.mul_assoc,Nat.mul_left_comm]
 have eb:(k+1)*(2*z)=b:=by rw[Nat.succ_mul,ea];omega
 refine⟨fun i hi=>?_,fun i hi hin=>?_,fun p hp=>by rw[h2 p (by omega)];exact h.2.2 p hp⟩
 . by_cases ei:i=k
   . subst ei
     rw[ea,eb,h1,k3]
   have hle:(i+1)*(2*z)<=k*(2*z):=Nat.mul_le_mul_right _ (by omega);rw[<-h.1 i (by omega)];exact UL h2 (.inl (by omega))
 rw[<-h.2.1 i (by omega) hin];have:(2*(k+1))*z<=i*z:=Nat.mul_le_mul_right z hi;have e3:(2*(k+1))*z=b:=by rw[show 2*(k+1)=2*k+1+1 by omega,Nat.succ_mul,Nat.succ_mul];omega
 exact UL h2 (.inr (by omega))
theorem Joined.last {x y y':Nat->Pr} {z n k a m:Nat} (h:Joined x y z n k) (ha:a=2*k*z) (hm:m=a+z) (hmn:m<n) (hn:n<m+z) (h1:seg y' a n=mrg pk (seg y a m) (seg y m n)) (h2:∀p,(p<a\/n<=p)->y' p=y p):Parts x y' (2*z) n/\∀p,n<=p->y' p=x p:=by
 obtain⟨_,_,k3⟩:=h.two a m n ha hm (Qa _) (by omega) (by omega) (.inr rfl);have ea:k*(2*z)=a:=by rw[ha,Nat.mul_assoc,Nat.mul_left_comm]
 have eb:(k+1)*(2*z)=m+z:=by rw[Nat.succ_mul,ea];omega
 refine⟨fun i hi=>?_,fun p hp=>by rw[h2 p (.inr hp)];exact h.2.2 p hp⟩;by_cases ei:i=k
 . subst ei
   rw[ea,eb,Nat.min_eq_right (by omega),h1,k3]
 have hik:i<k:=by
  by_cases e:i<k
  . exact e
  have:(k+1)*(2*z)<=i*(2*z):=Nat.mul_le_mul_right _ (by omega);omega
 have hle:(i+1)*(2*z)<=k*(2*z):=Nat.mul_le_mul_right _ (by omega);rw[Nat.min_eq_left (by omega),<-h.1 i hik];exact UL h2 (.inl (by omega))
theorem Joined.none {x y:Nat->Pr} {z n k a m:Nat} (h:Joined x y z n k) (ha:a=2*k*z) (hm:m=a+z) (hmn:n<=m) (han:a<=n):Parts x y (2*z) n/\∀p,n<=p->y p=x p:=by
 have ea:k*(2*z)=a:=by rw[ha,Nat.mul_assoc,Nat.mul_left_comm]
 have eb:(k+1)*(2*z)=m+z:=by rw[Nat.succ_mul,ea];omega
 refine⟨fun i hi=>?_,h.2.2⟩;by_cases ei:i=k
 . subst ei
   rw[ea,eb,Nat.min_eq_right (by omega)];have e1:(2*i+1)*z=m:=by rw[Nat.succ_mul,hm,ha]
   have k1:=h.2.1 (2*i) (Qa _) (by omega);rw[e1,<-ha,Nat.min_eq_right (by omega)] at k1;exact k1
 have hik:i<k:=by
  by_cases e:i<k
  . exact e
  have:(k+1)*(2*z)<=i*(2*z):=Nat.mul_le_mul_right _ (by omega);omega
 have hle:(i+1)*(2*z)<=k*(2*z):=Nat.mul_le_mul_right _ (by omega);rw[Nat.min_eq_left (by omega),<-h.1 i hik]
theorem Parts.all {x y:Nat->Pr} {z n:Nat} (h:Parts x y z n) (hn:0<n) (hz:n<=z):seg y 0 n=Yw pk (seg x 0 n):=by
 have:=h 0 (by omega);rw[Nat.zero_mul,show min ((0+1)*z) n=n by rw[Nat.zero_add,Nat.one_mul];omega] at this;exact this
set_option maxHeartbeats 16000000 in
theorem YfT (g C N cap:Nat) (hN:N<=C) (hC:C<=100000) (x:Nat->Pr) (hk:KB x C) (w:World) (hx:PB w g C x) :
 Calls Tryz.prog 123 #[.slice (some ⟨g,0,none⟩) N cap,.int .i64 (N:Int),.func (.func 112) #[] #[]] w fun e w'=>e=.returned (.tuple #[])/\Ch1 w w' g/\
  ∃y,PB w' g C y/\KB y C/\seg y 0 N=Yw pk (seg x 0 N)/\∀p,N<=p->y p=x p:=by
 obtain⟨x0,HX0⟩:∃x0:Nat->Pr,Hid (PB w g C x0/\KB x0 C/\Done x x0 20 N 0):=⟨x,hx,hk,fun i hi=>by omega,fun _ _=>rfl⟩;have HG0:=Qf (Ch1.refl w g);clear hx hk;go_enter Tryz.func123,Tryz.ntmps123;go_wp2_with fail
 go_loopw [7,8] (fun a_ b_ wr=>∃(k a:Nat) (y:Nat->Pr),a<=N/\a_=.int .i64 (a:Int)/\b_=.int .i64 ((a+20:Nat):Int)/\Hid (a=k*20)/\Hid (PB wr g C y/\KB y C/\Done x y 20 N k)/\Hid (Ch1 w wr g)) (fun a _ _=>N-(intOf a).toNat)
 case atStart=>exact⟨0,0,x0,by omega,by first|rfl|go_num,by first|rfl|go_num,rfl,HX0,HG0⟩
 clear HX0 HG0;obtain⟨k,a,y,ha,rfl,rfl,Ha,HY,HG⟩:=hrel;obtain⟨b,Hb⟩:=Qi (a+20);rw[Hb.out];have hbv:=Hb.out
 have Hek:Hid ((k+1)*20=b):=by show _=_;rw[Nat.succ_mul,<-Ha.out,Hb.out]
 by_cases hle:b<=N
 . obtain⟨d1,d1b⟩:=Qk (show b<=N by omega)
   have CI:=Qf (YiK g C N cap a b (by omega) hle hN (by omega) y HY.out.2.1 wr HY.out.1);obtain⟨c,Hc⟩:=Qi (b+20);have hcv:=Hc.out;have w1:IntKind.i64.wrap ((b:Int)+20)=(c:Int):=by rw[IntKind.wrap_i64];omega
   have hab:a<b:=by omega
   clear hbv hcv;go_wp2_with fail;refine CI.out.mono ?_;rintro e w8 ⟨rfl,hg8,y8,hp8,hk8,hs8,ho8⟩
   have HY8:Hid (PB w8 g C y8/\KB y8 C/\Done x y8 20 N (k+1)):=by
    refine⟨hp8,hk8,HY.out.2.2.step ?_ ?_⟩
    . rw[<-Ha.out,Hek.out];exact hs8
    rw[<-Ha.out,Hek.out];exact ho8
   have HG8:=Qf (HG.out.trans hg8);clear hg8 hp8 hk8 hs8 ho8 CI HY HG;go_wp2_with fail;go_roundw
   case rel=>exact⟨k+1,b,y8,hle,rfl,by rw[Hc.out],Qf Hek.out.symm,HY8,HG8⟩
   simp[intOf];omega
 obtain⟨d1,d1b⟩:=Qm (show N<b by omega);have CI:=Qf (YiK g C N cap a N ha (Qa _) hN (by omega) y HY.out.2.1 wr HY.out.1);clear hbv;go_wp2_with fail;refine CI.out.mono ?_;rintro e w8 ⟨rfl,hg8,y8,hp8,hk8,hs8,ho8⟩
 have HY8:Hid (PB w8 g C y8/\KB y8 C/\Parts x y8 20 N/\∀p,N<=p->y8 p=x p):=by
  refine⟨hp8,hk8,HY.out.2.2.last (by rw[<-Ha.out];exact ha) (by rw[Hek.out];omega) ?_ ?_⟩
  . rw[<-Ha.out];exact hs8
  rw[<-Ha.out];exact ho8
 have HG8:=Qf (HG.out.trans hg8);clear hg8 hp8 hk8 hs8 ho8 CI HY HG Hek Ha Hb hle ha d1 d1b;go_wp2_with fail
 go_loopw [6] (fun z_ wr=>∃(z:Nat) (y:Nat->Pr),20<=z/\z<=2*N+20/\z_=.int .i64 (z:Int)/\Hid (PB wr g C y/\KB y C/\Parts x y z N/\∀p,N<=p->y p=x p)/\Hid (Ch1 w wr g)) (fun z _=>2*N+20-(intOf z).toNat)
 case atStart=>exact⟨20,y8,by omega,by omega,rfl,HY8,HG8⟩
 clear HY8 HG8;obtain⟨z,y,hz1,hz2,rfl,HY,HG⟩:=hrel;by_cases hzN:z<N
 . obtain⟨d2,d2b⟩:=Qj (show z<N by omega)
   obtain⟨z2,Hz2⟩:=Qi (2*z);have hzv:=Hz2.out;have w1:IntKind.i64.wrap (2*(z:Int))=(z2:Int):=by rw[IntKind.wrap_i64];omega
   have w2:IntKind.i64.wrap ((z:Int)*2)=(z2:Int):=by rw[IntKind.wrap_i64];omega
   obtain⟨y0,HY0⟩:∃y0,Hid (PB wr g C y0/\KB y0 C/\Joined x y0 z N 0):=⟨y,HY.out.1,HY.out.2.1,Joined.begin HY.out.2.2.1 HY.out.2.2.2⟩;have hz2l:z2<=200000:=by omega
   have hzz:z<z2:=by omega
   have hzN2:z2<=2*N+20:=by omega
   clear hzv HY;go_wp2_with fail
   go_loopw [7,8] (fun a_ b_ wr=>∃(k a:Nat) (y:Nat->Pr),a<=N/\a_=.int .i64 (a:Int)/\b_=.int .i64 ((a+z2:Nat):Int)/\Hid (a=2*k*z)/\Hid (PB wr g C y/\KB y C/\Joined x y z N k)/\Hid (Ch1 w wr g)) (fun a _ _=>N-(intOf a).toNat)
   case atStart=>exact⟨0,0,y0,by omega,by first|rfl|go_num,by rw[Nat.zero_add],by show 0=2*0*z;omega,HY0,HG⟩
   clear HY0 HG;obtain⟨k,a,y,ha,rfl,rfl,Ha,HY,HG⟩:=hrel;obtain⟨b,Hb⟩:=Qi (a+z2);rw[Hb.out];have hbv:=Hb.out;have hzv:=Hz2.out;obtain⟨m,Hm⟩:=Qi (a+z);have hmv:=Hm.out;have w3:IntKind.i64.wrap ((a:Int)+(z:Int))=(m:Int):=by rw[IntKind.wrap_i64];omega
   by_cases hle:b<=N
   . obtain⟨d3,d3b⟩:=Qk (show b<=N by omega)
     obtain⟨s1,s2,_⟩:=HY.out.2.2.two a m b Ha.out hmv.symm hle (by omega) (by omega) (.inl (by omega));have CM:=Qf (Ylf g C N cap hN (by omega) (b-a) a m b y wr (Qa _) (by omega) (by omega) hle HY.out.2.1 HY.out.1 s1 s2);obtain⟨c,Hc⟩:=Qi (b+z2);have hcv:=Hc.out;have w4:IntKind.i64.wrap ((b:Int)+(z2:Int))=(c:Int):=(by rw[IntKind.wrap_i64];omega);have hab:a<b:=by omega
     have Hba:Hid (b=2*(k+1)*z):=by
      show _=_;have h:=Ha.out;rw[show 2*(k+1)=2*k+1+1 by omega,Nat.succ_mul,Nat.succ_mul,<-h];omega
     have hbz:b=m+z:=(by omega);have Hbz:=Qf hbz;clear hbv hcv hzv hmv s1 s2 hbz;go_wp2_with fail;refine CM.out.mono ?_;rintro e w9 ⟨rfl,hg9,y9,hp9,hk9,hs9,ho9⟩;have HY9:Hid (PB w9 g C y9/\KB y9 C/\Joined x y9 z N (k+1)):=⟨hp9,hk9,HY.out.2.2.step Ha.out Hm.out.symm Hbz.out hle (by omega) hs9 ho9⟩;have HG9:=Qf (HG.out.trans hg9);clear hg9 hp9 hk9 hs9 ho9 CM HY HG;go_wp2_with fail;go_roundw
     case rel=>exact⟨k+1,b,y9,hle,rfl,by rw[Hc.out],Hba,HY9,HG9⟩
     simp[intOf];omega
   obtain⟨d3,d3b⟩:=Qm (show N<b by omega);by_cases hmN:m<N
   . obtain⟨d4,d4b⟩:=Qj (show m<N by omega)
     obtain⟨s1,s2,_⟩:=HY.out.2.2.two a m N Ha.out hmv.symm (Qa _) (by omega) (by omega) (.inr rfl);have CM:=Qf (Ylf g C N cap hN (by omega) (N-a) a m N y wr (Qa _) (by omega) (by omega) (Qa _) HY.out.2.1 HY.out.1 s1 s2);have hNm:N<m+z:=(by omega);clear hbv hzv hmv s1 s2;go_wp2_with fail;refine CM.out.mono ?_;rintro e w9 ⟨rfl,hg9,y9,hp9,hk9,hs9,ho9⟩
     have HY9:Hid (PB w9 g C y9/\KB y9 C/\Parts x y9 z2 N/\∀p,N<=p->y9 p=x p):=by
      rw[<-Hz2.out];exact⟨hp9,hk9,HY.out.2.2.last Ha.out Hm.out.symm hmN hNm hs9 ho9⟩
     have HG9:=Qf (HG.out.trans hg9);clear hg9 hp9 hk9 hs9 ho9 CM HY HG;go_wp2_with fail;go_roundw
     case rel=>exact⟨z2,y9,by omega,hzN2,rfl,HY9,HG9⟩
     simp[intOf];omega
   obtain⟨d4,d4b⟩:=Ql (show N<=m by omega)
   have HY9:Hid (PB wr g C y/\KB y C/\Parts x y z2 N/\∀p,N<=p->y p=x p):=by
    rw[<-Hz2.out];exact⟨HY.out.1,HY.out.2.1,HY.out.2.2.none Ha.out Hm.out.symm (by omega) ha⟩
   clear hbv hzv hmv HY;go_wp2_with fail;go_roundw
   case rel=>exact⟨z2,y,by omega,hzN2,rfl,HY9,HG⟩
   simp[intOf];omega
 obtain⟨d2,d2b⟩:=Ql (show N<=z by omega);go_wp2_with fail
 (try simp only[Exit.inBlock,Exit.then]);refine bodyPost_end (results_none rfl _ _ _) rfl ?_
 refine⟨rfl,HG.out,y,HY.out.1,HY.out.2.1,?_,HY.out.2.2.2⟩;by_cases h0:0<N
 . exact HY.out.2.2.1.all h0 (by omega)
 obtain rfl:N=0:=by omega
 rfl
theorem YfS (w:World):Calls Tryz.prog 123 #[.slice none 0 0,.int .i64 0,.func (.func 112) #[] #[]] w fun e w'=>e=.returned (.tuple #[])/\w=w':=by
 have CI:Hid (∀W,Calls Tryz.prog 124 #[.slice none 0 0,.int .i64 0,.int .i64 0,.func (.func 112) #[] #[]] W fun e w'=>e=.returned (.tuple #[])/\W=w'):=by
  intro W;go_enter Tryz.func124,Tryz.ntmps124;go_wp2_with fail
  go_loopw [8] (fun i_ wr=>i_=.int .i64 1/\wr=W) (fun i _=>0)
  case atStart=>exact⟨rfl,by first|rfl|trivial⟩
  obtain⟨rfl,hw⟩:=hrel;have hw2:=hw.symm;subst hw2;go_wp2_with fail
  (try simp only[Exit.inBlock,Exit.then]);refine bodyPost_end (results_none rfl _ _ _) rfl ?_
  exact⟨rfl,rfl⟩
 go_enter Tryz.func123,Tryz.ntmps123;go_wp2_with fail
 go_loopw [7,8] (fun a_ b_ wr=>a_=.int .i64 0/\b_=.int .i64 20/\wr=w) (fun a _ _=>0)
 case atStart=>exact⟨rfl,rfl,by first|rfl|trivial⟩
 obtain⟨rfl,rfl,hw⟩:=hrel;have hw2:=hw.symm;subst hw2;go_wp2_with fail;refine(CI.out _).mono ?_;rintro e w8 ⟨rfl,rfl⟩;go_wp2_with fail
 go_loopw [6] (fun z_ wr=>z_=.int .i64 20/\wr=w) (fun z _=>0)
 case atStart=>exact⟨rfl,by first|rfl|trivial⟩
 obtain⟨rfl,hw⟩:=hrel;have hw2:=hw.symm;subst hw2;go_wp2_with fail
 (try simp only[Exit.inBlock,Exit.then]);refine bodyPost_end (results_none rfl _ _ _) rfl ?_
 exact⟨rfl,rfl⟩
theorem YjY (g C N cap:Nat) (hN:N<=C) (hC:C<=100000) (x:Nat->Pr) (hk:KB x C) (w:World) (hx:PB w g C x) :
 Calls Tryz.prog 111 #[.slice (some ⟨g,0,none⟩) N cap,.func (.func 112) #[] #[]] w fun e w'=>e=.returned (.tuple #[])/\Ch1 w w' g/\
  ∃y,PB w' g C y/\KB y C/\seg y 0 N=Yw pk (seg x 0 N)/\∀p,N<=p->y p=x p:=by
 have CS:=Qf (YfT g C N cap hN hC x hk w hx);clear hx hk;go_enter Tryz.func111,Tryz.ntmps111;go_wp2_with fail;refine CS.out.mono ?_;rintro e w1 ⟨rfl,h⟩;have H:=Qf h;clear h;go_wp2_with fail
 (try simp only[Exit.inBlock,Exit.then]);refine bodyPost_end (results_none rfl _ _ _) rfl ?_
 exact⟨rfl,H.out⟩
theorem YjX (w:World):Calls Tryz.prog 111 #[.slice none 0 0,.func (.func 112) #[] #[]] w fun e w'=>e=.returned (.tuple #[])/\w=w':=by
 have CS:=Qf (YfS w);go_enter Tryz.func111,Tryz.ntmps111;go_wp2_with fail;refine CS.out.mono ?_;rintro e w1 ⟨rfl,rfl⟩;go_wp2_with fail
 (try simp only[Exit.inBlock,Exit.then]);refine bodyPost_end (results_none rfl _ _ _) rfl ?_
 exact⟨rfl,rfl⟩
def Vp (Xs:List Pr):List Value:=Xs.flatMap fun x=>[.int .i64 x.k,x.s]
theorem Yal (A B:List Pr):Vp (A++B)=Vp A++Vp B:=List.flatMap_append
theorem YcN (Xs:List Pr):(Vp Xs).length=Xs.length*2:=by
 induction Xs with
 |nil=>rfl
 |cons x r ih=>show([Value.int .i64 x.k,x.s]++Vp r).length=_;rw[List.length_append,ih,List.length_cons];simp;omega
theorem YcM (Xs:List Pr):∀u ∈ Vp Xs,u.oneCell'=true:=by
 intro u hu;obtain⟨x,_,hx⟩:=List.mem_flatMap.1 hu;rcases List.mem_cons.1 hx with rfl|hx
 . rfl
 rcases List.mem_cons.1 hx with rfl|hx
 . rfl
 cases hx
instance:Inhabited Pr:=⟨⟨0,none,0,0⟩⟩
def prf (Xs:List Pr) (i:Nat):Pr:=Xs.getD i default
theorem YbT {Xs:List Pr} {i:Nat} (h:i<Xs.length):prf Xs i=Xs[i]:=by simp[prf,List.getD,h]
theorem Yl1 (Xs:List Pr):seg (prf Xs) 0 Xs.length=Xs:=by
 apply List.ext_getElem?;intro i;by_cases h:i<Xs.length
 . rw[U8 _ _ _ _ (by omega),Nat.zero_add,YbT h,List.getElem?_eq_getElem h]
 rw[List.getElem?_eq_none (by rw[YbM];omega),List.getElem?_eq_none (by omega)]
theorem Ybc (Xs:List Pr):V5 Xs.length (prf Xs)=(Vp Xs).toArray:=by
 have key:∀Xs:List Pr,(Vp Xs)= (List.range (2*Xs.length)).map (YdP (prf Xs)):=by
  intro Xs
  induction Xs with
  |nil=>rfl
  |cons x r ih=>
   rw[List.length_cons,show 2*(r.length+1)=2*r.length+1+1 by omega,List.range_succ_eq_map,List.map_cons,List.range_succ_eq_map,List.map_cons,List.map_cons,List.map_map,List.map_map];show Value.int .i64 x.k::x.s::Vp r=_;rw[ih]
   congr 2
   apply List.map_congr_left;intro i _;unfold YdP;show(if i%2=0 then _ else _)=(if (i+1+1)%2=0 then _ else _);have e:(i+1+1)/2=i/2+1:=by omega
   by_cases h:i%2=0
   . rw[if_pos h,if_pos (by omega),e];rfl
   rw[if_neg h,if_neg (by omega),e];rfl
 unfold V5 Yg;rw[key]
def PL (w:World) (g:Nat) (Xs:List Pr):Prop:=PB w g Xs.length (prf Xs)
theorem Ylh {w:World} {base g N cap:Nat} {Xs:List Pr} (h:w.ownsRow base 195 2 (.slice (some ⟨g,0,none⟩) N cap) N (Vp Xs)):PL w g Xs:=by
 rcases h.2 with⟨h,_⟩|⟨g',cap',cur,h,_,hh,h1,_,h3,h4⟩
 . cases h
 injection h with e1 e2 e3;injection e1 with e1;injection e1 with e1;subst e1;refine⟨(cur.toList.drop (N*2)).toArray,?_⟩;rw[Ybc,<-h4];show w.heap[g]?=_;rw[hh]
 have:(cur.toList.take (N*2)).toArray++(cur.toList.drop (N*2)).toArray=cur:=by
  apply Array.toList_inj.1;simp
 rw[this]
def RowV (w:World) (base:Nat) (v:Value) (Xs:List Pr):Prop:=
 (v=.slice none 0 0/\Xs=[])\/∃g cap,v=.slice (some ⟨g,0,none⟩) Xs.length cap/\Xs.length<=cap/\base<=g/\PL w g Xs
theorem YdL {w:World} {base:Nat} {v:Value} {Xs:List Pr} (h:w.ownsRow base 195 2 v Xs.length (Vp Xs)):RowV w base v Xs:=by
 rcases h.2 with⟨rfl,h0⟩|⟨g,cap,cur,rfl,hb,hh,h1,_⟩
 . exact .inl ⟨rfl,List.eq_nil_of_length_eq_zero h0⟩
 exact .inr ⟨g,cap,rfl,h1,hb,Ylh h⟩
theorem RowV.form {w:World} {base:Nat} {v:Value} {Xs:List Pr} (h:RowV w base v Xs):∃a cap,v=.slice a Xs.length cap/\Xs.length<=cap:=by
 rcases h with⟨rfl,rfl⟩|⟨g,cap,rfl,h,_⟩
 . exact⟨none,0,rfl,Qa _⟩
 exact⟨_,cap,rfl,h⟩
theorem RowV.get {w:World} {base N cap:Nat} {a:Option Addr} {Xs:List Pr} (h:RowV w base (.slice a N cap) Xs) (i:Nat) (hi:i<Xs.length):∃g,a=some ⟨g,0,none⟩/\base<=g/\g<w.heap.size/\w.cell? ⟨g,i*2,none⟩=some (.int .i64 (Xs[i]).k)/\w.cell? ⟨g,i*2+1,none⟩=some (Xs[i]).s:=by
 rcases h with⟨_,rfl⟩|⟨g,cap',h1,_,h3,h4⟩
 . simp at hi
 injection h1 with h1;have hk:=PB.k h4 i hi;have hs:=PB.s h4 i hi;rw[YbT hi] at hk hs;exact⟨g,h1,h3,PB.lt h4,hk,hs⟩
theorem RowV.grown {w w':World} {base:Nat} {v:Value} {Xs:List Pr} {r:Option Nat} (h:RowV w base v Xs) (hg:w.grownBy w' r) (hr:v.ownBlock=none\/v.ownBlock ≠ r):RowV w' base v Xs:=by
 rcases h with h|⟨g,cap,rfl,h2,h3,h4⟩
 . exact .inl h
 refine .inr ⟨g,cap,rfl,h2,h3,PB.grown h4 hg ?_⟩;rcases hr with hr|hr
 . simp[Value.ownBlock] at hr
 exact hr
theorem RowV.below {w w':World} {base:Nat} {v:Value} {Xs:List Pr} (h:RowV w base v Xs) (hb:Below w.heap.size w w'):RowV w' base v Xs:=by
 rcases h with h|⟨g,cap,rfl,h2,h3,h4⟩
 . exact .inl h
 exact .inr ⟨g,cap,rfl,h2,h3,PB.below h4 hb (PB.lt h4)⟩
theorem Ynd {w:World} {g:Nat} {Xs:List Pr} {y:Nat->Pr} {N:Nat} (h:PB w g N y) (hs:seg y 0 N=Xs):PL w g Xs:=by
 have hl:Xs.length=N:=by rw[<-hs,YbM];omega
 subst hl;obtain⟨R,h⟩:=h;refine⟨R,?_⟩
 have e:V5 Xs.length (prf Xs)=V5 Xs.length y:=by
  unfold V5;refine Ys _ _ _ fun i hi=>?_;have hj:i/2<Xs.length:=by omega
  have:prf Xs (i/2)=y (i/2):=by
   rw[YbT hj];have h1:=U8 y 0 Xs.length (i/2) (by omega);rw[hs,List.getElem?_eq_getElem hj,Nat.zero_add] at h1;injection h1
  unfold YdP;rw[this]
 rw[e];exact h
def KL (Xs:List Pr):Prop:=∀x ∈ Xs,-1000000000000000<=x.k/\x.k<=1000000000000000
theorem YbJ (base:Nat) (v:Value) (Xs:List Pr) (hl:Xs.length<=100000) (hk:KL Xs) (w:World) (h:RowV w base v Xs) :
 Calls Tryz.prog 111 #[v,.func (.func 112) #[] #[]] w fun e w'=>e=.returned (.tuple #[])/\w.grownBy w' v.ownBlock/\RowV w' base v (Yw pk Xs):=by
 rcases h with⟨rfl,rfl⟩|⟨g,cap,rfl,h2,h3,h4⟩
 . refine(YjX w).mono ?_
   rintro e w' ⟨h1,rfl⟩;exact⟨h1,⟨rfl,rfl,rfl,Qa _,fun _ _ _=>rfl⟩,.inl ⟨rfl,rfl⟩⟩
 have hkb:KB (prf Xs) Xs.length:=fun i hi=>by rw[YbT hi];exact hk _ (List.getElem_mem hi)
 refine(YjY g Xs.length Xs.length cap (Qa _) hl (prf Xs) hkb w h4).mono ?_;rintro e w' ⟨h5,h6,y,h7,h8,h9,_⟩;refine⟨h5,h6,.inr ⟨g,cap,?_,?_,h3,?_⟩⟩
 . rw[(VT pk Xs).length_eq]
 . rw[(VT pk Xs).length_eq];exact h2
 rw[Yl1] at h9;exact Ynd h7 h9
theorem KR:(Tryz.prog.info? 195).map (fun i=>(i.zero,i.size,i.bytes))=some (some (.agg #[.int .i64 0,.slice none 0 0]),2,32):=by kernel_rfl
theorem YhZ {w:World} {g:Nat} {Xs:List Pr} (h:PL w g Xs):∀j u,(Vp Xs)[j]?=some u->w.cell? ((⟨g,0,none⟩:Addr).add j)=some u:=by
 intro j u hu;have hadd:(⟨g,0,none⟩:Addr).add j=⟨g,j,none⟩:=by unfold Addr.add;split<;>simp_all
 obtain⟨R,h⟩:=h;rw[hadd,Blk.cell h j,Ybc]
 have hj:j<(Vp Xs).length:=by
  by_cases e:j<(Vp Xs).length
  . exact e
  rw[List.getElem?_eq_none (by omega)] at hu;cases hu
 rw[Array.getElem?_append_left (by simpa using hj)]
 simpa using hu
theorem YmE (W:World):Sem.run Tryz.prog (binOp BinOp.eql 193 (.slice none 0 0) (.slice none 0 0)) W=.ok (.bool true) W:=by kernel_rfl
theorem YkN (g N cap:Nat) (W:World):Sem.run Tryz.prog (binOp BinOp.eql 193 (.slice (some ⟨g,0,none⟩) N cap) (.slice none 0 0)) W=.ok (.bool false) W:=by kernel_rfl
set_option maxHeartbeats 4000000 in
theorem Yje (base:Nat) (v:Value) (Xs:List Pr) (hl:Xs.length<=100000) (w:World) (h:RowV w base v Xs) :
 Calls Tryz.prog 113 #[v] w fun e w'=>∃v',e=.returned v'/\w'.ownsRow w.heap.size 195 2 v' Xs.length (Vp Xs)/\Below w.heap.size w w':=by
 rcases h with⟨rfl,rfl⟩|⟨g,cap,rfl,h2,h3,h4⟩
 . have hq:=YmE
   go_enter Tryz.func113,Tryz.ntmps113;go_wp2_with fail;go_ret;exact⟨_,rfl,World.ownsRow_nil _ _ _ _,Below.refl _ _⟩
 have hr0:=World.ownsRow_made (base:=w.heap.size) (e:=195) (size:=2) w #[] 0 (Qa _) (Nat.zero_le _) rfl;have hb0:=(Below.refl w.heap.size w).alloc (Qa _) (.cells #[] 195);have hP:PL (w.alloc (.cells #[] 195)) g Xs:=PB.below h4 hb0 (PB.lt h4);have Hnews:=Qf (YhZ hP);have HB0:=Qf hb0;have Hr0:=Qf hr0;obtain⟨N,HN⟩:=Qi (Xs.length);have hpl:=YcN Xs;rw[HN.out] at hl hpl h2 ⊢;obtain⟨i0,hi',hz0,hz1,hz2⟩:=info_parts KR;have Hpl:=Qf hpl;clear hP hb0 h4 hr0 hpl;have hq:=YkN g N cap;by_cases h0:N=0
 . have hx0:Xs=[]:=List.eq_nil_of_length_eq_zero (by rw[HN.out];exact h0)
   subst h0;subst hx0;go_enter Tryz.func113,Tryz.ntmps113
   go_wp2_with (at_builtin;go_must (refine wpList_append_own_at (w.alloc (.cells #[] 195)) rfl (.tmp 5) (.tmp 6) 193 rfl w.heap.size 195 i0 _ 2 32 Tryz.underlying193 hi' hz0 hz1 hz2 rfl (by decide) (.slice (some ⟨w.heap.size,0,none⟩) 0 0) 0 [] rfl Hr0.out ⟨g,0,none⟩ 0 cap [] rfl rfl (fun j u hu=>by simp at hu) (fun u hu=>by cases hu) ?_ ?_ HB0.out.size ?_;(unfold maxLen;omega);omega;intro v1 w1 ho1 hg1 _ _;have HO1:=Qf ho1;have HG1:=Qf (Yb Hr0.out hg1 HB0.out.size);clear ho1 hg1))
   go_ret;exact⟨_,rfl,HO1.out,HB0.out.trans HG1.out⟩
 have hN:0<N:=by omega
 go_enter Tryz.func113,Tryz.ntmps113
 go_wp2_with (at_builtin;go_must (refine wpList_append_lies (w.alloc (.cells #[] 195)) rfl (.tmp 5) (.tmp 6) 193 rfl w.heap.size 195 i0 _ 2 32 Tryz.underlying193 hi' hz0 hz1 hz2 rfl (by decide) (.slice (some ⟨w.heap.size,0,none⟩) 0 0) 0 [] rfl Hr0.out ⟨g,0,none⟩ N cap (Vp Xs) rfl Hpl.out Hnews.out (fun u hu=>YcM Xs u hu) hN ?_ ?_ HB0.out.size _ rfl ?_;(unfold maxLen;omega);omega;intro g1 cap1 w1 ho1 hg1 _ _;rw[Nat.zero_add,List.nil_append] at ho1;have HO1:=Qf ho1;have HG1:=Qf (Yb Hr0.out hg1 HB0.out.size);rw[Nat.zero_add];clear ho1 hg1))
 go_ret;exact⟨_,rfl,HO1.out,HB0.out.trans HG1.out⟩
theorem YjI (ns:Nat->Nat) (K:Nat) (h:∀j,j<K->ns j<=10000):∀j,j<=K->totN ns j<=10000*j:=by
 intro j
 induction j with
 |zero=>intro _;exact Nat.zero_le _
 |succ j ih=>
  intro hj;have h1:=ih (by omega);have h2:=h j (by omega);show totN ns j+ns j<=_;omega
theorem YiR (n:Nat) (h1:1<=n) (h2:n<=100000) (w:World) :
 Calls Tryz.prog 108 #[.slice none 0 0,.int .i64 (n:Int)] w fun e w'=>∃g cap,e=.returned (.slice (some ⟨g,0,none⟩) 0 cap)/\w'.ownsRow w.heap.size 3 1 (.slice (some ⟨g,0,none⟩) 0 cap) 0 []/\Below w.heap.size w w':=by
 have d0:decide ((n:Int)<0)=false:=Qh (by omega);have d1:decide ((0:Int)<(n:Int))=true:=Qg (by omega);have d1b:decide (0<n)=true:=Qg (by omega);have hw:IntKind.i64.wrap (n:Int)=(n:Int):=IntWalk.i64_in _ (by omega);have hn0:w.ownsRow w.heap.size 3 1 (.slice none 0 0) 0 []:=World.ownsRow_nil w _ _ _;go_enter Tryz.func108,Tryz.ntmps108
 go_wp2_with (at_builtin;go_must (refine Vl rfl (.tmp 20) (.tmp 21) rfl w.heap.size (.slice none 0 0) 0 [] hn0 rfl n rfl h1 ?_ (Qa _) ?_;omega;intro v w1 ho hg;rw[Nat.zero_add] at ho;obtain⟨g,cap,rfl,hgb,_⟩:=World.ownsRow.form ho (by omega);have HO:=Qf ho;have Hg:=Qf hg;clear ho hg hn0))
 go_ret;refine⟨g,cap,rfl,?_,⟨Hg.out.os,Hg.out.tape,Hg.out.output,Hg.out.size,fun j hj=>Hg.out.block j hj (fun e=>by cases e)⟩⟩;rcases HO.out.2 with⟨h,_⟩|⟨g',cap',cur,h,a1,a2,a3,a4,a5,_⟩
 . cases h
 injection h with h3 h4 h5;injection h3 with h3;injection h3 with h3;subst h3 h5;exact⟨rfl,.inr ⟨g,cap,cur,rfl,a1,a2,Nat.zero_le _,a4,a5,rfl⟩⟩
set_option maxHeartbeats 4000000 in
theorem Yei (K:Nat) (h1:1<=K) (h2:K<=8) (ns gs:Nat->Nat) (cs:Nat->Nat) (vs:Nat->Nat->Int) (m:Nat->Int) (hns:∀j,j<K->1<=ns j/\ns j<=10000) (hm:∀j,j<K->∀i,i<ns j->m (totN ns j+i)=vs j i) (htot:totN ns K<=100000) (G off cap:Nat) (w:World)
 (hG:G<w.heap.size) (hcell:∀j,j<K->w.cell? ⟨G,off+j,none⟩=some (.slice (some ⟨gs j,0,none⟩) (ns j) (cs j))) (hrow:∀j,j<K->IRow w (some ⟨gs j,0,none⟩) (ns j) (vs j)) :
 Calls Tryz.prog 86 #[.slice (some ⟨G,off,none⟩) K cap] w fun e w'=>∃g cap',e=.returned (.slice (some ⟨g,0,none⟩) (totN ns K) cap')/\w'.ownsRow w.heap.size 3 1 (.slice (some ⟨g,0,none⟩) (totN ns K) cap') (totN ns K) (Yt (totN ns K) m)/\Below w.heap.size w w':=by
 have hle:=YjI ns K (fun j hj=>(hns j hj).2)
 have hpos:1<=totN ns K:=by
  have h3:=(hns 0 (by omega)).1
  have:∀j,1<=j->j<=K->1<=totN ns j:=by
   intro j
   induction j with
   |zero=>intro h _;omega
   |succ j ih=>
    intro _ hj;by_cases h0:j=0
    . subst h0;show 1<=0+ns 0;omega
    have:=ih (by omega) (by omega);show 1<=totN ns j+ns j;omega
  exact this K h1 (Qa _)
 have CG:=Qf (fun W=>YiR (totN ns K) hpos htot W);have Hle:=Qf hle;have Hns:=Qf hns;have Hm:=Qf hm;have Hcell:=Qf hcell;have Hrow:=Qf hrow;obtain⟨T,HT⟩:=Qi (totN ns K);rw[HT.out] at CG htot hpos ⊢;obtain⟨B,HBs⟩:=Qi (w.heap.size);rw[HBs.out];clear hle hns hm hcell hrow;go_enter Tryz.func86,Tryz.ntmps86;go_wp2_with fail
 go_loopw [3,11] (fun z_ j_ wr=>∃j z:Nat,j<=K/\z_=.int .i64 (z:Int)/\j_=.int .i64 (j:Int)/\Hid (totN ns j=z)/\wr=w) (fun _ j _=>K-(intOf j).toNat)
 case atStart=>exact⟨0,0,by omega,rfl,rfl,rfl,rfl⟩
 obtain⟨j,z,hj,rfl,rfl,Hz,hwr⟩:=hrel;have hwr2:=hwr.symm;subst hwr2;clear hwr
 have hzl:z<=80000:=by have:=Hle.out j hj;rw[Hz.out] at this;omega
 by_cases hlt:j<K
 . have dk:decide ((j:Int)<(K:Int))=true:=Qg (by omega)
   have hc:=Hcell.out j hlt;have hn:=Hns.out j hlt;obtain⟨N,HN⟩:=Qi (ns j);obtain⟨cq,Hcq⟩:=Qi (cs j);rw[Hcq.out] at hc;rw[HN.out] at hn hc;have hw:IntKind.i64.wrap ((z:Int)+(N:Int))=(z:Int)+(N:Int):=IntWalk.i64_in _ (by omega);have dn:decide ((z:Int)+(N:Int)<0)=false:=Qh (by omega)
   have Hz2:Hid (totN ns (j+1)=z+N):=by show totN ns j+ns j=_;rw[Hz.out,HN.out]
   go_wp2_with fail;go_roundw
   case rel=>exact⟨j+1,z+N,by omega,by go_num,by go_num,Hz2,(by first|rfl|trivial)⟩
   simp[intOf];omega
 obtain rfl:j=K:=by omega
 have dk:decide ((j:Int)<(j:Int))=false:=Qh (by omega);obtain rfl:z=T:=by rw[<-Hz.out];exact HT.out
 go_wp2_with fail;refine(CG.out _).mono ?_;rintro e w1 ⟨g,cp,rfl,ho,hb⟩;have ho0:w.ownsRow w.heap.size 3 1 (.slice none 0 0) 0 []:=World.ownsRow_nil _ _ _ _;have HO:=Qf ho;have HB:=Qf hb;rw[HBs.out] at HO HB;have HGB:G<B:=by rw[<-HBs.out];exact hG
 have HO0:Hid (w1.ownsRow B 3 1 (.slice (some ⟨g,0,none⟩) (totN ns 0) cp) (totN ns 0) (Yt (totN ns 0) m)):=HO.out;clear ho hb ho0 HO;go_wp2_with fail
 go_loopw [6,27] (fun v_ j_ ws=>∃(k g cp:Nat),k<=j/\v_=.slice (some ⟨g,0,none⟩) (totN ns k) cp/\j_=.int .i64 (k:Int)/\Hid (ws.ownsRow B 3 1 (.slice (some ⟨g,0,none⟩) (totN ns k) cp) (totN ns k) (Yt (totN ns k) m))/\Hid (Below B w ws)) (fun _ k _=>j-(intOf k).toNat)
 case atStart=>exact⟨0,g,cp,by omega,rfl,rfl,HO0,HB⟩
 clear HO0 HB;obtain⟨k,g2,cp2,hk,rfl,rfl,HO,HB⟩:=hrel;by_cases hlt2:k<j
 . have dk2:decide ((k:Int)<(j:Int))=true:=Qg (by omega)
   have hc:=(HB.out.cell (p:=⟨G,off+k,none⟩) HGB).trans (Hcell.out k hlt2);have hrw:=Hrow.out k hlt2;have hn:=Hns.out k hlt2
   have htk:totN ns (k+1)<=80000:=by have:=Hle.out (k+1) (by omega);omega
   have hjoin:Yt (totN ns k) m++Yt (ns k) (vs k)=Yt (totN ns (k+1)) m:=Yav (totN ns k) (ns k) m (vs k) (Hm.out k hlt2);obtain⟨N,HN⟩:=Qi (ns k);obtain⟨V,HV⟩:=Qi (vs k);obtain⟨Z,HZ⟩:=Qi (totN ns k);obtain⟨Z2,HZ2⟩:=Qi (totN ns (k+1));have hz2:Z+N=Z2:=by rw[<-HZ2.out,<-HZ.out,<-HN.out];rfl
   have Hz2:=Qf hz2;obtain⟨cq,Hcq⟩:=Qi (cs k);rw[Hcq.out] at hc;obtain⟨q,Hq⟩:=Qi (gs k);rw[HN.out] at hn hc hrw hjoin;rw[Hq.out] at hc hrw;rw[HV.out] at hrw hjoin;rw[HZ.out] at HO hjoin ⊢;rw[HZ2.out] at htk hjoin;have hr2:IRow wr (some ⟨q,0,none⟩) N V:=hrw.below (HBs.out ▸ HB.out);have hos:=HO.out
   have hbsz:B<=wr.heap.size:=by have:=HB.out.size;have:=HBs.out;omega
   have Hjoin:=Qf hjoin;clear hrw hz2 hjoin
   go_wp2_with (at_builtin;go_must (refine XU rfl (.tmp 31) (.tmp 32) rfl B _ Z m hos rfl (some ⟨q,0,none⟩) N cq V rfl hr2 ?_ ?_ hbsz ?_;(intro e;cases e);(have:=Hz2.out;omega);intro v5 w5 ho5 hg5 hne5;rw[Hz2.out,Hjoin.out] at ho5;obtain⟨g5,cp5,rfl,_⟩:=World.ownsRow.form ho5 (by have:=Hz2.out;omega);have HO5:=Qf ho5;have HB5:Hid (Below B w w5):=Qf (HB.out.grown hg5 hbsz (fun g e=>(World.ownsRow.lt hos g e).1));clear ho5 hg5 hne5 hos hr2 hc))
   go_roundw
   case rel=>exact⟨k+1,g5,cp5,by omega,by rw[HZ2.out],by go_num,by rw[HZ2.out];exact HO5,HB5⟩
   simp[intOf];omega
 obtain rfl:k=j:=by omega
 have dk2:decide ((k:Int)<(k:Int))=false:=Qh (by omega);rw[HT.out] at HO ⊢;go_wp2_with fail;go_ret;exact⟨g2,cp2,rfl,HO.out,HB.out⟩
def SyR (w:World) (B:Nat) (x:Pr) (y:It):Prop:=
 x.k=y.k/\∃b cs,x.a=some ⟨b,0,none⟩/\B<=b/\Blk w b 3 cs/\x.n=y.l.length/\∀i,i<y.l.length->cs[i]?=some (.int .i64 ((y.l.getD i 0:Nat):Int))
def KeepI (B:Nat) (w w':World):Prop:=∀b,B<=b->∀cs,Blk w b 3 cs->Blk w' b 3 cs
theorem KeepI.below {B:Nat} {w w':World} (h:Below w.heap.size w w'):KeepI B w w':=fun _ _ _ hc=>hc.below h hc.lt
theorem Yl7 {w:World} {base e s n b t:Nat} {v:Value} {x:List Value} {cs:Array Value} (h:w.ownsRow base e s v n x) (hB:Blk w b t cs) (hne:e ≠ t):some b ≠ v.ownBlock:=by
 rcases KX h hB hne with e|e
 . rw[e];simp
 exact fun x=>e x.symm
theorem KeepI.row {B:Nat} {w w':World} {v:Value} {base n:Nat} {x:List Value} (h:w.ownsRow base 195 2 v n x) (hg:w.grownBy w' v.ownBlock):KeepI B w w':=
 fun _ _ _ hc=>Blk.grown hc hg (Yl7 h hc (by decide))
theorem YhL {w:World} {base b:Nat} {v:Value} {Xs:List Pr} {cs:Array Value} (h:RowV w base v Xs) (hB:Blk w b 3 cs):some b ≠ v.ownBlock:=by
 rcases h with⟨rfl,_⟩|⟨g,cap,rfl,_,_,R,hg⟩
 . simp[Value.ownBlock]
 intro e;simp only[Value.ownBlock,Option.some.injEq] at e;subst e;have h1:w.heap[b]?=some (.cells (V5 Xs.length (prf Xs)++R) 195):=hg;have h2:w.heap[b]?=some (.cells cs 3):=hB;rw[h1] at h2;simp only[Option.some.injEq,Obj.cells.injEq] at h2;exact absurd h2.2.1 (by decide)
theorem KeepI.rowv {B:Nat} {w w':World} {v:Value} {base:Nat} {Xs:List Pr} (h:RowV w base v Xs) (hg:w.grownBy w' v.ownBlock):KeepI B w w':=
 fun _ _ _ hc=>Blk.grown hc hg (YhL h hc)
theorem SyR.keep {w w':World} {B:Nat} {x:Pr} {y:It} (h:SyR w B x y) (hk:KeepI B w w'):SyR w' B x y:=by
 obtain⟨h1,b,cs,h2,h3,h4,h5⟩:=h;exact⟨h1,b,cs,h2,h3,hk b h3 cs h4,h5⟩
abbrev Zt:=Pr × It
def SyL (w:World) (B:Nat) (Zs:List Zt):Prop:=∀z ∈ Zs,SyR w B z.1 z.2
theorem SyL.keep {w w':World} {B:Nat} {Zs:List Zt} (h:SyL w B Zs) (hk:KeepI B w w'):SyL w' B Zs:=fun z hz=>(h z hz).keep hk
def fsts (Zs:List Zt):List Pr:=Zs.map Prod.fst
def snds (Zs:List Zt):List It:=Zs.map Prod.snd
theorem Vn (Zs:List Zt):(fsts Zs).length=Zs.length:=by simp[fsts]
theorem Xf (Zs:List Zt):(snds Zs).length=Zs.length:=by simp[snds]
theorem Yb7 (A B:List Zt):fsts (A++B)=fsts A++fsts B:=List.map_append
theorem JT (A B:List Zt):snds (A++B)=snds A++snds B:=List.map_append
theorem YcS {w w':World} {base e s n:Nat} {v:Value} {xs:List Value} (h:w.ownsRow base e s v n xs) (hb:Below w.heap.size w w'):w'.ownsRow base e s v n xs:=by
 have hlt:=World.ownsRow.lt h;refine⟨h.1,?_⟩;rcases h.2 with h|⟨g,cap,cur,rfl,a1,a2,a3⟩
 . exact .inl h
 exact .inr ⟨g,cap,cur,rfl,a1,(hb.block g (hlt g rfl).2).trans a2,a3⟩
theorem Yac (w:World) (o:Obj):w.heap.size<=(w.alloc o).heap.size:=by rw[Vm];exact Nat.le_succ _
theorem Yhl (k:Int) (g n c:Nat):∀u ∈ [Value.int .i64 k,Value.slice (some ⟨g,0,none⟩) n c],u.oneCell'=true:=by
 intro y hy;simp at hy;rcases hy with rfl|rfl<;>rfl
theorem Yja {w0 wr w':World} {O:Nat} {v v':Value} {Zs:List Zt} {s:Nat} {x:Int} {cz:Array Value} (hO:w0.heap.size<=O) (h1:wr.ownsRow (O+1) 195 2 v Zs.length (Vp (fsts Zs))) (h2:SyL wr (O+1) Zs) (h3:Blk wr O 3 cz) (hb:Below w0.heap.size w0 wr)
 (ho:w'.ownsRow (O+1) 195 2 v' (Zs.length+1) (Vp (fsts Zs)++[.int .i64 x,.slice (some ⟨wr.heap.size,0,none⟩) 1 1])) (hg:(wr.alloc (.cells #[.int .i64 (s:Int)] 3)).grownBy w' v.ownBlock) :
 w'.ownsRow (O+1) 195 2 v' (Zs++[((⟨x,some ⟨wr.heap.size,0,none⟩,1,1⟩,⟨x,[s]⟩):Zt)]).length (Vp (fsts (Zs++[((⟨x,some ⟨wr.heap.size,0,none⟩,1,1⟩,⟨x,[s]⟩):Zt)])))/\SyL w' (O+1) (Zs++[(⟨x,some ⟨wr.heap.size,0,none⟩,1,1⟩,⟨x,[s]⟩)])/\Blk w' O 3 cz/\Below w0.heap.size w0 w':=by
 have hal:Below wr.heap.size wr (wr.alloc (.cells #[.int .i64 (s:Int)] 3)):=(Below.refl wr.heap.size wr).alloc (Qa _) _
 have hown2:(wr.alloc (.cells #[.int .i64 (s:Int)] 3)).ownsRow (O+1) 195 2 v Zs.length (Vp (fsts Zs)):=by
  have hlt:=World.ownsRow.lt h1;refine⟨h1.1,?_⟩;rcases h1.2 with h|⟨g,cap,cur,rfl,a1,a2,a3⟩
  . exact .inl h
  exact .inr ⟨g,cap,cur,rfl,a1,(hal.block g (hlt g rfl).2).trans a2,a3⟩
 have hk:KeepI (O+1) (wr.alloc (.cells #[.int .i64 (s:Int)] 3)) w':=KeepI.row hown2 hg;have hOl:=h3.lt;refine⟨?_,?_,?_,?_⟩
 . rw[List.length_append,Yb7,Yal]
   exact ho
 . intro z hz
   rcases List.mem_append.1 hz with hz|hz
   . exact((h2 z hz).keep (KeepI.below hal)).keep hk
   rcases List.mem_cons.1 hz with rfl|hz
   . refine⟨rfl,wr.heap.size,#[.int .i64 (s:Int)],rfl,hOl,hk wr.heap.size hOl _ (Blk.new wr _ _),rfl,fun i hi=>?_⟩
     have:i=0:=(by simpa using hi);subst this;rfl
   cases hz
 . refine Blk.grown (h3.alloc _) hg ?_
   intro e;have:=(World.ownsRow.lt hown2 O e.symm).1;omega
 have hs:=(hb.trans (hal.mono hb.size))
 exact hs.grown hg hs.size fun k hk2=>by have:=(World.ownsRow.lt hown2 k hk2).1;omega
theorem Ymi {α β:Type} (f:α->β) (w:β->Int):∀(n:Nat) (A B:List α),A.length+B.length<=n->mrg w (A.map f) (B.map f)=(mrg (fun x=>w (f x)) A B).map f:=by
 intro n
 induction n with
 |zero=>
  intro A B h;have:A=[]:=List.eq_nil_of_length_eq_zero (by omega);subst this;rw[YK,List.map_nil,YK]
 |succ n ih=>
  intro A B h
  match A,B,h with
  |[],B,_=>rw[YK,List.map_nil,YK]
  |a::A,[],_=>rw[YR,List.map_nil,YR]
  |a::A,b::B,h=>
   simp only[List.length_cons] at h;rw[YE,List.map_cons,List.map_cons,YE];split
   . rw[List.map_cons,<-ih (a::A) B (by simp only[List.length_cons];omega)];rfl
   rw[List.map_cons,<-ih A (b::B) (by simp only[List.length_cons];omega)];rfl
theorem Yc2 {α β:Type} (f:α->β) (w:β->Int) (L:List α):Yw w (L.map f)=(Yw (fun x=>w (f x)) L).map f:=by
 have key:∀(n:Nat) (b:List α),b.length=n->Yw w (b.map f)=(Yw (fun x=>w (f x)) b).map f:=by
  intro n
  induction n with
  |zero=>
   intro b h;have:b=[]:=List.eq_nil_of_length_eq_zero h;subst this;rfl
  |succ n ih=>
   intro b h;have hne:b ≠ []:=by intro e;subst e;simp at h
   obtain⟨c,x,rfl⟩:∃c x,b=c++[x]:=⟨b.dropLast,b.getLast hne,(List.dropLast_concat_getLast hne).symm⟩;rw[List.length_append] at h;simp only[List.length_cons,List.length_nil] at h;rw[List.map_append,List.map_cons,List.map_nil,Vs,Vs,ih c (by omega)];exact Ymi f w _ _ [x] (Qa _)
 exact key _ L rfl
theorem Yiq {α:Type} (w w':α->Int):∀(n:Nat) (A B:List α),A.length+B.length<=n->(∀x ∈ A,w x=w' x)->(∀x ∈ B,w x=w' x)->mrg w A B=mrg w' A B:=by
 intro n
 induction n with
 |zero=>
  intro A B h _ _;have:A=[]:=List.eq_nil_of_length_eq_zero (by omega);subst this;rw[YK,YK]
 |succ n ih=>
  intro A B h hA hB
  match A,B,h,hA,hB with
  |[],B,_,_,_=>rw[YK,YK]
  |a::A,[],_,_,_=>rw[YR,YR]
  |a::A,b::B,h,hA,hB=>
   simp only[List.length_cons] at h;rw[YE,YE,hA a (List.mem_cons_self ..),hB b (List.mem_cons_self ..),ih (a::A) B (by simp only[List.length_cons];omega) hA (fun x hx=>hB x (List.mem_cons_of_mem _ hx)),ih A (b::B) (by simp only[List.length_cons];omega) (fun x hx=>hA x (List.mem_cons_of_mem _ hx)) hB]
theorem Yd2 {α:Type} (w w':α->Int) (L:List α) (hL:∀x ∈ L,w x=w' x):Yw w L=Yw w' L:=by
 have key:∀(n:Nat) (b:List α),b.length=n->(∀x ∈ b,w x=w' x)->Yw w b=Yw w' b:=by
  intro n
  induction n with
  |zero=>
   intro b h _;have:b=[]:=List.eq_nil_of_length_eq_zero h;subst this;rfl
  |succ n ih=>
   intro b h hb;have hne:b ≠ []:=by intro e;subst e;simp at h
   obtain⟨c,x,rfl⟩:∃c x,b=c++[x]:=⟨b.dropLast,b.getLast hne,(List.dropLast_concat_getLast hne).symm⟩;rw[List.length_append] at h;simp only[List.length_cons,List.length_nil] at h;have hc:∀x ∈ c,w x=w' x:=fun x hx=>hb x (List.mem_append_left _ hx);rw[Vs,Vs,ih c (by omega) hc];refine Yiq w w' _ _ [x] (Qa _) (fun y hy=>hc y ((VT w' c).mem_iff.1 hy)) (fun y hy=>?_);rcases List.mem_cons.1 hy with rfl|hy
   . exact hb _ (by simp)
   cases hy
 exact key _ L rfl hL
def kz (z:Zt):Int:=z.1.k
theorem YbK (Zs:List Zt):Yw pk (fsts Zs)=fsts (Yw kz Zs):=Yc2 Prod.fst pk Zs
theorem YeA {w:World} {B:Nat} {Zs:List Zt} (h:SyL w B Zs):Yw ik (snds Zs)=snds (Yw kz Zs):=by
 unfold snds;rw[Yc2 Prod.snd ik Zs]
 congr 1
 exact Yd2 _ _ _ fun z hz=>((h z hz).1).symm
theorem SyL.sort {w:World} {B:Nat} {Zs:List Zt} (h:SyL w B Zs):SyL w B (Yw kz Zs):=fun z hz=>h z ((VT kz Zs).mem_iff.1 hz)
theorem YiJ {α:Type} (w:α->Int) (L:List α):(Yw w L).length=L.length:=(VT w L).length_eq
theorem YcG {w:World} {base k:Nat} {v:Value} {Xs:List Pr} (h:RowV w base v Xs) (hk:v.ownBlock=some k):base<=k:=by
 rcases h with⟨rfl,_⟩|⟨g,cap,rfl,_,h3,_⟩
 . simp[Value.ownBlock] at hk
 simp only[Value.ownBlock,Option.some.injEq] at hk;omega
theorem Jt {w0 w w':World} {B0 base:Nat} {v:Value} {Xs:List Pr} (hb:Below B0 w0 w) (h:RowV w base v Xs) (hB:B0<=base) (hg:w.grownBy w' v.ownBlock) (hs:B0<=w.heap.size):Below B0 w0 w':=
 hb.grown hg hs fun k hk=>by have:=YcG h hk;omega
theorem YeH (A:List It) (M:Int) (hM:0<=M) (hA:∀x ∈ A,x.k<=M/\x.l.length=1):∀k,∀x ∈ rowN A k,x.k<=M*2^k/\1<=x.l.length/\2*x.l.length<=2^k:=by
 have key:∀(B:Int) (L:Nat) (n:Nat) (R:List It),R.length<=n->(∀x ∈ R,x.k<=B/\1<=x.l.length/\2*x.l.length<=L)->∀x ∈ pairs R,x.k<=B*2/\1<=x.l.length/\2*x.l.length<=L*2:=by
  intro B L n
  induction n using Nat.strongRecOn with
  |ind n ih=>
   intro R h hR x hx
   match R,h,hR,hx with
   |a::b::R,h,hR,hx=>
    simp only[List.length_cons] at h;rcases List.mem_cons.1 hx with rfl|hx
    . obtain⟨a1,a2,a3⟩:=hR a (List.mem_cons_self ..)
      obtain⟨b1,b2,b3⟩:=hR b (by simp);refine⟨?_,?_,?_⟩
      . show a.k+b.k<=B*2;omega
      . show 1<=(a.l++b.l).length;rw[List.length_append];omega
      show 2*(a.l++b.l).length<=L*2;rw[List.length_append];omega
    exact ih R.length (by omega) R (Qa _) (fun y hy=>hR y (by simp[hy])) x hx
 intro k
 induction k with
 |zero=>intro x hx;cases hx
 |succ k ih=>
  intro x hx;rcases(Jf ik _ _ x).1 hx with h|h
  . obtain⟨h1,h2⟩:=hA x h
    have hp:0<2^k:=Nat.pow_pos (by decide)
    have hpi:(1:Int)<=2^(k+1):=by
     have:((2:Int)^(k+1))=((2^(k+1):Nat):Int):=(by simp);rw[this];have:0<2^(k+1):=Nat.pow_pos (by decide);omega
    refine⟨?_,by omega,by rw[h2,Nat.pow_succ];omega⟩;have:=Int.mul_le_mul_of_nonneg_left hpi hM;omega
  obtain⟨a,b,c⟩:=key (M*2^k) (2^k) _ _ (Qa _) ih x h;refine⟨?_,b,by rw[Nat.pow_succ];exact c⟩;rw[Int.pow_succ,<-Int.mul_assoc];exact a
theorem Yf1 (A:List It):∀k,(rowN A k).length<=2*A.length:=by
 intro k
 induction k with
 |zero=>exact Nat.zero_le _
 |succ k ih=>rw[YbQ];omega
theorem YcR {w0 wr wc w':World} {O Bn:Nat} {v v':Value} {Zn:List Zt} {k1 k2:Int} {l1 l2:List Nat} {G cp:Nat} (hOB:O+1<=Bn) (hB0:w0.heap.size=Bn) (h1:wr.ownsRow Bn 195 2 v Zn.length (Vp (fsts Zn))) (h2:SyL wr (O+1) Zn) (hb:Below Bn w0 wr) (hw:Bn<=wr.heap.size)
 (hc:Below wr.heap.size wr wc) (hG:wr.heap.size<=G) (hrow:∃cs,Blk wc G 3 cs/\∀i,i<(l1++l2).length->cs[i]?=some (.int .i64 (((l1++l2).getD i 0:Nat):Int)))
 (ho:w'.ownsRow Bn 195 2 v' (Zn.length+1) (Vp (fsts Zn)++[.int .i64 (k1+k2),.slice (some ⟨G,0,none⟩) (l1++l2).length cp])) (hg:wc.grownBy w' v.ownBlock) :
 w'.ownsRow Bn 195 2 v' (Zn++[((⟨k1+k2,some ⟨G,0,none⟩,(l1++l2).length,cp⟩,⟨k1+k2,l1++l2⟩):Zt)]).length (Vp (fsts (Zn++[((⟨k1+k2,some ⟨G,0,none⟩,(l1++l2).length,cp⟩,⟨k1+k2,l1++l2⟩):Zt)])))/\SyL w' (O+1) (Zn++[(⟨k1+k2,some ⟨G,0,none⟩,(l1++l2).length,cp⟩,⟨k1+k2,l1++l2⟩)])/\Below Bn w0 w':=by
 have hown2:wc.ownsRow Bn 195 2 v Zn.length (Vp (fsts Zn)):=by
  have hlt:=World.ownsRow.lt h1;refine⟨h1.1,?_⟩;rcases h1.2 with h|⟨g,cap,cur,rfl,a1,a2,a3⟩
  . exact .inl h
  exact .inr ⟨g,cap,cur,rfl,a1,(hc.block g (hlt g rfl).2).trans a2,a3⟩
 have hk:KeepI (O+1) wc w':=KeepI.row hown2 hg;refine⟨?_,?_,?_⟩
 . rw[List.length_append,Yb7,Yal]
   exact ho
 . intro z hz
   rcases List.mem_append.1 hz with hz|hz
   . exact((h2 z hz).keep (KeepI.below hc)).keep hk
   rcases List.mem_cons.1 hz with rfl|hz
   . obtain⟨cs,c1,c2⟩:=hrow
     exact⟨rfl,G,cs,rfl,by show O+1<=G;omega,hk G (by omega) cs c1,rfl,c2⟩
   cases hz
 have hs:=hb.trans (hc.mono hw)
 exact hs.grown hg (by have:=hc.size;omega) fun k hk2=>by have:=(World.ownsRow.lt hown2 k hk2).1;omega
theorem Ygf (R:List It) (q:Nat) (h:2*q+1<R.length):pairs (R.take (2*(q+1)))=pairs (R.take (2*q))++[⟨R[2*q].k+R[2*q+1].k,R[2*q].l++R[2*q+1].l⟩]:=by
 rw[<-K6,<-K6];have hl:q<(pairs R).length:=by rw[UO _ _ (Qa _)];omega
 rw[List.take_succ_eq_append_getElem hl]
 congr 2
 have:=YcQ q R h;rw[List.getElem?_eq_getElem hl] at this;injection this
theorem Ybt (lA lB:List Nat) (hA:1<=lA.length/\lA.length<=8192) (hB:1<=lB.length/\lB.length<=8192) (bA bB cA cB G cap:Nat) (csA csB:Array Value) (W:World)
 (h:Blk W G 113 #[.slice (some ⟨bA,0,none⟩) lA.length cA,.slice (some ⟨bB,0,none⟩) lB.length cB]) (h1:Blk W bA 3 csA) (h2:Blk W bB 3 csB)
 (k1:∀i,i<lA.length->csA[i]?=some (.int .i64 ((lA.getD i 0:Nat):Int))) (k2:∀i,i<lB.length->csB[i]?=some (.int .i64 ((lB.getD i 0:Nat):Int))) :
 Calls Tryz.prog 86 #[.slice (some ⟨G,0,none⟩) 2 cap] W fun e w'=>∃g cp,e=.returned (.slice (some ⟨g,0,none⟩) (lA++lB).length cp)/\W.heap.size<=g/\(∃cs,Blk w' g 3 cs/\∀i,i<(lA++lB).length->cs[i]?=some (.int .i64 (((lA++lB).getD i 0:Nat):Int)))/\Below W.heap.size W w':=by
 have ht:totN (fun j=>if j=0 then lA.length else lB.length) 2=(lA++lB).length:=by
  show 0+lA.length+lB.length=_;rw[List.length_append];omega
 have hc:=Yei 2 (by decide) (by decide) (fun j=>if j=0 then lA.length else lB.length) (fun j=>if j=0 then bA else bB) (fun j=>if j=0 then cA else cB) (fun j i=>((if j=0 then lA.getD i 0 else lB.getD i 0:Nat):Int)) (fun i=>(((lA++lB).getD i 0:Nat):Int))
  (fun j _=>by(try dsimp only);split<;>omega) (fun j hj i hi=>by
   try dsimp only at hi ⊢
   by_cases e:j=0
   . subst e
     rw[if_pos rfl] at hi ⊢;have:totN (fun j=>if j=0 then lA.length else lB.length) 0=0:=rfl;rw[this,Nat.zero_add,List.getD_eq_getElem?_getD,List.getElem?_append_left hi,<-List.getD_eq_getElem?_getD]
   rw[if_neg e] at hi ⊢;have:j=1:=by omega
   subst this
   have:totN (fun j=>if j=0 then lA.length else lB.length) 1=lA.length:=by show 0+lA.length=_;omega
   rw[this,List.getD_eq_getElem?_getD,List.getElem?_append_right (by omega),<-List.getD_eq_getElem?_getD,Nat.add_sub_cancel_left])
  (by rw[ht,List.length_append];omega) G 0 cap W h.lt (fun j hj=>by
   try dsimp only
   rw[Nat.zero_add];refine(Blk.cell h j).trans ?_;by_cases e:j=0
   . subst e;rfl
   . have:j=1:=by omega
     subst this;rfl) (fun j hj=>by
   try dsimp only
   by_cases e:j=0
   . subst e
     exact .inr ⟨bA,0,rfl,h1.lt,fun i hi=>by rw[Nat.zero_add];exact(Blk.cell h1 i).trans (k1 i hi)⟩
   rw[if_neg e,if_neg e];simp only[if_neg e]
   exact .inr ⟨bB,0,rfl,h2.lt,fun i hi=>by rw[Nat.zero_add];exact(Blk.cell h2 i).trans (k2 i hi)⟩)
 refine hc.mono ?_;rintro e w' ⟨g,cp,rfl,ho,hb⟩;rw[ht] at ho ⊢;refine⟨g,cp,rfl,(World.ownsRow.lt ho g rfl).1,?_,hb⟩;rcases ho.2 with⟨h,_⟩|⟨g',cap',cur,h,_,hh,_,_,_,h6⟩
 . cases h
 injection h with e1;injection e1 with e1;injection e1 with e1;subst e1;refine⟨cur,hh,fun i hi=>?_⟩;have h7:=Xp (lA++lB).length (fun i=>(((lA++lB).getD i 0:Nat):Int)) i hi;rw[<-h6,List.getElem?_take,if_pos (by omega)] at h7
 simpa using h7
theorem YcF {w:World} {B B':Nat} {v:Value} {Xs:List Pr} (h:RowV w B v Xs) (hB:B'<=B):RowV w B' v Xs:=by
 rcases h with h|⟨g,cap,h1,h2,h3,h4⟩
 . exact .inl h
 exact .inr ⟨g,cap,h1,h2,by omega,h4⟩
theorem YeW {A:List It} (hA:Srt ik A) {k:Nat} {w:World} {B:Nat} {ZA Zn:List Zt} (h1:snds ZA=A) (h2:snds Zn=pairs (rowN A k)) (hs:SyL w B (ZA++Zn)):snds (Yw kz (ZA++Zn))=rowN A (k+1):=by
 rw[<-YeA hs,JT,Yc3,h1,h2,UJ ik A hA,UJ ik _ (YcP _ _ (Qa _) (YeG A hA k)).1];rfl
theorem YiD {A:List It} (hA:∀x ∈ A,0<x.k/\x.k<=1000000/\x.l.length=1) {k:Nat} (hk:k<=14) {w:World} {B:Nat} {ZA Zn:List Zt} (h1:snds ZA=A) (h2:snds Zn=pairs (rowN A k)) (hs:SyL w B (ZA++Zn)):KL (fsts (ZA++Zn)):=by
 intro x hx;obtain⟨z,hz,rfl⟩:=List.mem_map.1 hx
 have hin:z.2 ∈ rowN A (k+1):=by
  refine(Jf ik _ _ _).2 ?_;rcases List.mem_append.1 hz with h|h
  . exact .inl (by rw[<-h1];exact List.mem_map_of_mem h)
  exact .inr (by rw[<-h2];exact List.mem_map_of_mem h)
 have hp:=JU A (fun x hx=>(hA x hx).1) (k+1) _ hin;have hl:=(YeH A 1000000 (by decide) (fun x hx=>(hA x hx).2) (k+1) _ hin).1
 have hpw:((2:Int)^(k+1))<=32768:=by
  have e:((2:Int)^(k+1))=((2^(k+1):Nat):Int):=by simp
  have:2^(k+1)<=2^15:=Nat.pow_le_pow_right (by decide) (by omega);rw[e];omega
 have hek:=(hs z hz).1;show -1000000000000000<=z.1.k/\z.1.k<=1000000000000000;rw[hek];generalize (2:Int)^(k+1)=y at *;omega
theorem Yj2 (A:List It) (P:Nat->Prop) (hA:∀x ∈ A,∀t ∈ x.l,P t):∀k,∀x ∈ rowN A k,∀t ∈ x.l,P t:=by
 have key:∀(n:Nat) (R:List It),R.length<=n->(∀x ∈ R,∀t ∈ x.l,P t)->∀x ∈ pairs R,∀t ∈ x.l,P t:=by
  intro n
  induction n using Nat.strongRecOn with
  |ind n ih=>
   intro R h hR x hx t ht
   match R,h,hR,hx with
   |a::b::R,h,hR,hx=>
    simp only[List.length_cons] at h;rcases List.mem_cons.1 hx with rfl|hx
    . rcases List.mem_append.1 ht with h1|h1
      . exact hR a (List.mem_cons_self ..) t h1
      exact hR b (by simp) t h1
    exact ih R.length (by omega) R (Qa _) (fun y hy=>hR y (by simp[hy])) x hx t ht
 intro k
 induction k with
 |zero=>intro x hx;cases hx
 |succ k ih=>
  intro x hx;rcases(Jf ik _ _ x).1 hx with h|h
  . exact hA x h
  exact key _ _ (Qa _) ih x h
theorem YjQ (R:List It) (B:Nat) (h:∀x ∈ R,x.l.length<=B):(syms R).length<=B*R.length:=by
 induction R with
 |nil=>exact Nat.zero_le _
 |cons a R ih=>
  show(a.l++syms R).length<=B*(R.length+1);rw[List.length_append,Nat.mul_succ];have:=h a (List.mem_cons_self ..);have:=ih fun x hx=>h x (List.mem_cons_of_mem _ hx);omega
def cntC (S:List Nat) (t:Nat):Value:=.int .i64 ((S.count t:Nat):Int)
theorem X0 (s:Nat) (S:List Nat) (y:Nat):(Yg s (cntC S)).setIfInBounds y (.int .i64 ((S.count y+1:Nat):Int))=Yg s (cntC (S++[y])):=by
 rw[YA];refine Ys _ _ _ fun i _=>?_;unfold cntC;rw[List.count_append];by_cases e:i=y
 . subst e
   rw[if_pos rfl];simp
 rw[if_neg e];have:[y].count i=0:=by rw[List.count_eq_zero];simp;exact e
 rw[this];rfl
theorem Yd5 {w w1 w2:World} {r:Option Nat} (h:w.grownBy w1 r) (hb:Below w1.heap.size w1 w2):w.grownBy w2 r:=
 ⟨hb.os.trans h.os,hb.tape.trans h.tape,hb.output.trans h.output,Qe h.size hb.size,fun b hb1 hr=>(hb.block b (Qb hb1 h.size)).trans (h.block b hb1 hr)⟩
theorem YiQ {w w1:World} {O:Nat} (h:w.grownBy w1 (some O)) (i:Nat) (u:Value):w.grownBy (w1.setCell ⟨O,i,none⟩ u) (some O):=Ch1.set h i u
theorem Ymn {B O:Nat} {w w1:World} (h:w.grownBy w1 (some O)) (hO:O<B):KeepI B w w1:=fun b hb _ hc=>Blk.grown hc h (fun e=>by injection e;omega)
theorem YdK (A:List It) (k:Nat) (hk:1<=k) (hN:A.length<=2^k):2*A.length-2<=(rowN A k).length:=by
 by_cases h0:A.length=0
 . omega
 obtain⟨kk,rfl⟩:∃kk,k=kk+1:=⟨k-1,by omega⟩;have hen:=Yah A (by omega) kk
 have h3:(A.length-1)/2^kk<=1:=by
  have:(A.length-1)/2^kk<2:=by
   rw[Nat.div_lt_iff_lt_mul (Nat.pow_pos (by decide))];have e:2^(kk+1)=2*2^kk:=by rw[Nat.pow_succ,Nat.mul_comm]
   omega
  omega
 omega
theorem YkM (N:Nat) (h:N<=400):∃(N2 P:Nat) (X:Int),IntKind.i64.wrap (2*(N:Int))=(N2:Int)/\IntKind.i64.wrap ((N2:Int)-2)=X/\P=2*N-2/\
 ∀W,Sem.run Tryz.prog (Builtin.max_ #[3,3] 3 #[.int .i64 X,.int .i64 0]) W=.ok (.int .i64 (P:Int)) W:=by
 refine⟨2*N,2*N-2,((2*N:Nat):Int)-2,by rw[IntKind.wrap_i64];omega,by rw[IntKind.wrap_i64];omega,rfl,fun W=>?_⟩;have e:(if (0:Int)>((2*N:Nat):Int)-2 then 0 else ((2*N:Nat):Int)-2)=((2*N-2:Nat):Int):=by split<;>omega
 show Result.ok (Value.int .i64 (if (0:Int)>((2*N:Nat):Int)-2 then 0 else ((2*N:Nat):Int)-2)) W=_;rw[e]
theorem Yby {w w1:World} {o:Obj} (h:Below (w.alloc o).drew.heap.size (w.alloc o).drew w1):Below w.heap.size w w1:=
 (((Below.refl w.heap.size w).alloc (Qa _) o).drew).trans (h.mono (Yac w o))
theorem JA (w:World) (o:Obj):w.heap.size<=(w.alloc o).drew.heap.size:=Yac w o
end Go.Proofs.YthehocmfpoglgaaGreat
