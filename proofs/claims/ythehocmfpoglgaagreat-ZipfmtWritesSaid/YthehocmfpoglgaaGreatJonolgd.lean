/- Texts joined: Def7 FixN DflP Wk Frame HeadF Wsm ArcP Rck FileF. Conditions: each theorem says its own. -/
import Derived.WalkKit
import Derived.ProofKit
import Derived.OpenShut
import Derived.ShutString
import Derived.ChangeOld
import Derived.Below
import Derived.SizedLaws
import Derived.Lib.SmallJoins
import Derived.SliceStrings
import Derived.Deep.Slices
import Derived.Test.YthehocmfpoglgaaGreatJpjgiil
import Derived.Test.YthehocmfpoglgaaGreatTokensJ
import Derived.Test.YthehocmfpoglgaaGreatJcephoj
import Derived.Test.YthehocmfpoglgaaGreatRows
import Derived.Test.YthehocmfpoglgaaGreatJikjhbb
namespace Go.Proofs.YthehocmfpoglgaaGreat
open Go.RowKit
set_option maxRecDepth 100000
theorem Yh7 {e:TypeId} {w:World} {base:Nat} {v:Value} {S:List Tok} (h:OwnK e w base v S):(S=[]/\v=.slice none 0 0)\/∃g cap,v=.slice (some ⟨g,0,none⟩) S.length cap/\S.length<=cap/\TkRow w (some ⟨g,0,none⟩) S:=by
 obtain⟨a,cap,h1,h2⟩:=h.view;rcases h.2 with⟨h3,h4⟩|⟨g,cap2,cur,h3,_,_,h4,_⟩
 . exact .inl ⟨List.eq_nil_of_length_eq_zero h4,h3⟩
 refine .inr ⟨g,cap2,h3,h4,?_⟩;rw[h3] at h1;injection h1 with e1 _ _;rw[<-e1] at h2;exact h2
noncomputable def pkE (fx:Bool) (S:List Tok):List (Nat × Nat):=if fx=true then fixE S else dynS S
theorem Ygh (fx:Bool) (S:List Tok) (hS:S.length<=4000) (base:Nat) (v:Value) (ht:∀t ∈ S,TokW 286 30 t/\TokW 288 32 t) (w:World) (h:OwnK 119 w base v S) :
 Calls Tryz.prog 41 #[v,.bool fx] w fun e w'=>e=.returned (.string (encB (pkE fx S)))/\Below w.heap.size w w':=by
 rcases Yh7 h with⟨h1,rfl⟩|⟨g,cap,rfl,h2,h3⟩
 . cases fx
   . exact YdS S h1 w
   exact YdQ S h1 w
 cases fx
 . exact YdR S hS g 0 cap h2 (fun t h=>(ht t h).1) w h3
 exact Ygg S hS g 0 cap h2 (fun t h=>(ht t h).2) w h3
noncomputable def bstB (S:List Tok) (u:ByteArray):Nat->ByteArray
 |0=>u
 |j+1=>if (encB (pkE (decide (j=0)) S)).size<(bstB S u j).size then encB (pkE (decide (j=0)) S) else bstB S u j
set_option maxHeartbeats 16000000 in
theorem Yeg (s:ByteArray) (lv:Nat) (hlv:lv<=9) (hs:s.size<=65536) (hn:(tokF s lv s.size 0).length<=4000) (w:World) :
 Calls Tryz.prog 24 #[.string s,.int .i64 (lv:Int)] w fun e w'=>∃u,Yju s u/\e=.returned (.tuple #[.string (bstB (tokF s lv s.size 0) u 2),.int .i64 0])/\Below w.heap.size w w':=by
 have CT:=Qf (fun W=>YfC s lv hlv hs W);have CS:=Qf (fun W=>YfO s hs W);have hex:=Yew s lv s.size 0 (by omega) (Nat.zero_le _);have ht:=Yhq hex;obtain⟨S,HS⟩:=Qi (tokF s lv s.size 0);rw[HS.out] at CT hn ht ⊢;have CP:=Qf (fun (fx:Bool) (base:Nat) (v:Value) (W:World) (h:OwnK 119 W base v S)=>Ygh fx S hn base v ht W h);clear hex ht hn HS;go_enter Tryz.func24,Tryz.ntmps24;go_wp2_with fail;refine(CT.out _).mono ?_;rintro e w1 ⟨v,rfl,ho,hb1⟩;have HO1:=Qf ho;have HB1:=Qf hb1;clear ho hb1 CT;go_wp2_with fail;refine(CS.out _).mono ?_;rintro e w2 ⟨u,rfl,hu,hb2⟩;have HO2:=Qf (HO1.out.below hb2 (Qa _));have HB2:=Qf (Yk HB1.out hb2);have HU:=Qf hu;have hal:=(Below.refl w2.heap.size w2).alloc (Qa _) (.cells #[.bool true,.bool false] 4);have hbn:=Blk.new w2 4 #[.bool true,.bool false];have HO3:=Qf (HO2.out.below hal (Qa _));have HB3:=Qf (Yk HB2.out hal);have HN3:=Qf hbn;obtain⟨Bb,HBb⟩:=Qi (w2.heap.size);rw[HBb.out] at HN3;clear hu hb2 hal hbn CS HO1 HB1 HO2 HB2;go_wp2_with fail;rw[HBb.out];obtain⟨w3,HW3⟩:=Qi (w2.alloc (.cells #[.bool true,.bool false] 4));rw[HW3.out] at HN3 HO3 HB3 ⊢;clear HW3 HBb;have Hb0:Hid (bstB S u 0=u):=Qf (Eq.refl _)
 go_loopw [8,25] (fun b_ j_ wr=>∃(j:Nat) (x:ByteArray),j<=2/\j_=.int .i64 (j:Int)/\b_=.string x/\Hid (bstB S u j=x)/\Hid (Blk wr Bb 4 #[.bool true,.bool false])/\Hid (OwnK 119 wr w.heap.size v S)/\Hid (Below w.heap.size w wr)) (fun _ j _=>2-(intOf j).toNat)
 case atStart=>exact⟨0,u,by decide,rfl,rfl,Hb0,HN3,HO3,HB3⟩
 clear HN3 HO3 HB3 Hb0;obtain⟨j,x,hj,rfl,rfl,HX,HN,HO,HB⟩:=hrel;by_cases hlt:j<2
 . have dj:decide ((j:Int)<2)=true:=Qg (by omega)
   have djb:decide (j<2)=true:=Qg (by omega);have hjI:(j:Int)<2:=by omega
   obtain⟨fx,Hfx⟩:=Qi (decide (j=0))
   have c0:wr.cell? ⟨Bb,j,none⟩=some (.bool fx):=by
    rw[Blk.cell HN.out,<-Hfx.out]
    rcases show j=0\/j=1 by omega with rfl|rfl<;>rfl
   have CPx:=Qf (CP.out fx w.heap.size v wr HO.out);obtain⟨t,Ht⟩:=Qi (encB (pkE fx S));rw[Ht.out] at CPx
   have hnx:bstB S u (j+1)=if t.size<x.size then t else x:=by
    show(if (encB (pkE (decide (j=0)) S)).size<(bstB S u j).size then encB (pkE (decide (j=0)) S) else bstB S u j)=_;rw[Hfx.out,Ht.out,HX.out]
   have Hnx:=Qf hnx;clear hnx;go_wp2_with fail;refine CPx.out.mono ?_;rintro e w4 ⟨rfl,hb4⟩;have HN4:=Qf (HN.out.below hb4 HN.out.lt);have HO4:=Qf (HO.out.below hb4 (Qa _));have HB4:=Qf (Yk HB.out hb4);clear hb4 HN HO HB CPx;by_cases hsz:t.size<x.size
   . obtain⟨d1,d1b⟩:=Qj (show t.size<x.size by omega)
     have HX2:Hid (bstB S u (j+1)=t):=by show _=_;rw[Hnx.out,if_pos hsz]
     go_wp2_with fail;go_roundw
     case rel=>exact⟨j+1,t,by omega,by go_num,rfl,HX2,HN4,HO4,HB4⟩
     simp[intOf];omega
   obtain⟨d1,d1b⟩:=Ql (show x.size<=t.size by omega)
   have HX2:Hid (bstB S u (j+1)=x):=by show _=_;rw[Hnx.out,if_neg hsz]
   go_wp2_with fail;go_roundw
   case rel=>exact⟨j+1,x,by omega,by go_num,rfl,HX2,HN4,HO4,HB4⟩
   simp[intOf];omega
 have hj2:Hid (j=2):=by show _=_;omega
 have dj:decide ((j:Int)<2)=false:=Qh (by omega);have djb:decide (j<2)=false:=Qh (by omega);go_wp2_with fail;go_ret2;have hX:=HX.out;rw[hj2.out] at hX;exact⟨u,HU.out,by rw[hX];rfl,HB.out⟩
end Go.Proofs.YthehocmfpoglgaaGreat
namespace Go.Proofs.YthehocmfpoglgaaGreat
open Go.RowKit
set_option maxRecDepth 100000
theorem YlJ {m m':Int} (h:m<=m') {n:Nat} {t:Tok} (h0:terr m n t=0):terr m' n t=0:=by
 unfold terr at h0 ⊢;by_cases h1:t.l=0
 . rw[if_pos h1] at h0 ⊢
   by_cases h2:t.d ≠ 0
   . rw[if_pos h2] at h0;cases h0
   rw[if_neg h2] at h0 ⊢;by_cases h3:m<=(n:Int)
   . rw[if_pos h3] at h0;cases h0
   rw[if_neg (by omega)]
 rw[if_neg h1] at h0 ⊢;by_cases h2:t.b ≠ 0\/t.l<3\/258<t.l\/t.d<1\/32768<t.d\/(n:Int)<t.d
 . rw[if_pos h2] at h0;cases h0
 rw[if_neg h2] at h0 ⊢;by_cases h3:m<(n:Int)+t.l
 . rw[if_pos h3] at h0;cases h0
 rw[if_neg (by omega)]
theorem YlI {m m':Int} (h:m<=m'):∀{S:List Tok} {o T:List UInt8},texp m o S=(T,0)->texp m' o S=(T,0):=by
 intro S
 induction S with
 |nil=>intro o T h1;exact h1
 |cons t S ih=>
  intro o T h1;obtain⟨h2,h3⟩:=UG h1;rw[UE (YlJ h h2)];exact ih h3
theorem Yjk (S:List Tok) (u:ByteArray):(bstB S u 2=u\/bstB S u 2=encB (fixE S)\/bstB S u 2=encB (dynS S))/\(bstB S u 2).size<=u.size/\(bstB S u 2).size<=(encB (fixE S)).size:=by
 have e1:bstB S u 1=if (encB (fixE S)).size<u.size then encB (fixE S) else u:=rfl
 have e2:bstB S u 2=if (encB (dynS S)).size<(bstB S u 1).size then encB (dynS S) else bstB S u 1:=rfl
 have h1:(bstB S u 1=u\/bstB S u 1=encB (fixE S))/\(bstB S u 1).size<=u.size/\(bstB S u 1).size<=(encB (fixE S)).size:=by
  rw[e1];split
  . exact⟨.inr rfl,by omega,Qa _⟩
  exact⟨.inl rfl,Qa _,by omega⟩
 obtain⟨h2,h3,h4⟩:=h1;rw[e2];split
 . exact⟨.inr (.inr rfl),by omega,by omega⟩
 refine⟨?_,h3,h4⟩;rcases h2 with h|h
 . exact .inl h
 exact .inr (.inl h)
def Yep (d:ByteArray) (s:ByteArray) (most:Nat):Prop:=∃bs σ,Kl d most=.ok (bs,σ)/\X5 [] bs=s.data.toList/\σ.n<8/\σ.out=s.size
theorem Yi6 (s u:ByteArray) (lv most:Nat) (hm:s.size<=most) (hu:bstB (tokF s lv s.size 0) u 2 ≠ u\/(u=stoS s/\s.size<=65535)):Yep (bstB (tokF s lv s.size 0) u 2) s most:=by
 have hex:texp (most:Int) [] (tokF s lv s.size 0)=(s.data.toList,0):=YlI (by omega) (Yew s lv s.size 0 (by omega) (Nat.zero_le _));have ht:=fun t h=>((Yhq hex) t h).1;have hl:s.data.toList.length=s.size:=by simp
 obtain⟨S,hS⟩:∃S,tokF s lv s.size 0=S:=⟨_,rfl⟩;rw[hS] at hex ht hu ⊢;rcases(Yjk S u).1 with h|h|h
 . rcases hu with h2|⟨h2,h3⟩
   . exact absurd h h2
   rw[h,h2];refine⟨_,_,YjU s most h3 hm,?_,by show 0<8;decide,rfl⟩;show YiH [] ⟨0,s.data.toList,[]⟩=_;show UT ([]++s.data.toList) []=_;rfl
 . rw[h]
   refine⟨_,_,YkJ S most _ hex,YkI S most _ hex,?_,hl⟩;show 8*((encN (fixE S)+7)/8)-encN (fixE S)<8;omega
 rw[h];refine⟨_,_,Ynr S most _ ht hex,UF most S [] _ hex,?_,hl⟩;show 8*((encN (dynS S)+7)/8)-encN (dynS S)<8;omega
noncomputable def dflB (s:ByteArray) (lv:Nat):ByteArray:=bstB (tokF s lv s.size 0) (stoS s) 2
theorem YgG (s:ByteArray) (lv most:Nat) (hs:s.size<=65535) (hm:s.size<=most):Yep (dflB s lv) s most:=Yi6 s (stoS s) lv most hm (.inr ⟨rfl,hs⟩)
theorem UY (s:ByteArray) (lv:Nat) (hlv:lv<=9) (hs:s.size<=4000) (w:World) :
 Calls Tryz.prog 24 #[.string s,.int .i64 (lv:Int)] w fun e w'=>e=.returned (.tuple #[.string (dflB s lv),.int .i64 0])/\Below w.heap.size w w':=by
 refine(Yeg s lv hlv (by omega) (by have:=YjM s lv s.size 0;omega) w).mono ?_;rintro e w' ⟨u,hu,rfl,hb⟩;rw[hu.1 (by omega)];exact⟨rfl,hb⟩
theorem YlY {d s:ByteArray} {most:Nat} (h:Yep d s most):Xo d most=some (s,d.size):=by
 obtain⟨bs,σ,h1,h2,h3,h4⟩:=h;unfold Xo;rw[h1];dsimp only;have e1:(⟨(X5 [] bs).toArray⟩:ByteArray)=s:=ByteArray.ext (Array.ext' h2)
 have h5:σ.n<=8*d.size:=by
  have:=KC _ (show VJ most (8*d.size+1) (sg d 0 0) []=.ok (bs,σ) from h1);have e0:(sg d 0 0).n=8*d.size:=rfl;rw[e0] at this;simp at this;omega
 have e2:(8*d.size-σ.n+7)/8=d.size:=by omega
 rw[e1,e2]
theorem Ynt (s:ByteArray) (lv:Nat) (hs:s.size<=65535):Xo (dflB s lv) s.size=some (s,(dflB s lv).size):=YlY (YgG s lv s.size hs (Qa _))
theorem XQ (a b:Nat) (l:List (Nat × Nat)):encN ((a,b)::l)=b+encN l:=rfl
theorem Yfi (s:ByteArray) (lv:Nat):2<=(dflB s lv).size:=by
 unfold dflB;obtain⟨h,_⟩:=Yjk (tokF s lv s.size 0) (stoS s);rcases h with h|h|h
 . rw[h,Ycw];omega
 . rw[h,YaE]
   unfold fixE;rw[XQ,XQ,Y0];have e1:encN [symE (lens fixL) 288 256]=7:=by decide +kernel
   rw[e1];omega
 rw[h,YaE];unfold dynS dynE JN;rw[XQ,XQ,List.cons_append,XQ,List.cons_append,XQ,List.cons_append,XQ];omega
def strA:ByteArray:=⟨#[97]⟩
def strHi:ByteArray:=⟨#[104,105]⟩
theorem Ykq {s:ByteArray} (h:nmOK s):nmB s=true:=by
 classical
 unfold nmB;exact decide_eq_true h
theorem YnF:nmB strA=true:=Ykq ⟨by decide,by decide,fun i hi=>by
 have:i=0:=by have e:strA.size=1:=rfl;omega
 subst this
 decide⟩
theorem YjC:chkF [(strA,strHi)]=0:=by
 unfold chkF chkL;rw[if_neg (by decide),if_neg (by decide),YnF];have e:Xy strA ⟨#[]⟩=false:=by decide +kernel
 rw[e];rfl
theorem YfA:∃s,XE (fun x=>dflB x 6) [(strA,strHi)]=.ok s/\s.size=102/\V9 s=.ok [(strA,strHi)]:=by
 have e1:YS (fun x=>dflB x 6) [(strA,strHi)] 0=[⟨⟨strA,0,VH 0 strHi.data.toList,2,2,0⟩,strHi,strHi⟩]:=by
  have h2:=Yfi strHi 6;rw[YS,YS];unfold YQ;have hz:strHi.size=2:=rfl;dsimp only;rw[hz,if_neg (by omega)];rfl
 have e2:(Vd (YS (fun x=>dflB x 6) [(strA,strHi)] 0)).length=102:=by
  rw[e1];unfold Vd;rw[List.length_append,YZ];show(YH [_]).length+((idxH [_]).length+22)=102;unfold YH idxH;rw[List.flatMap_cons,List.flatMap_cons,List.length_append,List.length_append,V6,VC];rfl
 have e3:XE (fun x=>dflB x 6) [(strA,strHi)]=.ok ⟨(Vd (YS (fun x=>dflB x 6) [(strA,strHi)] 0)).toArray⟩:=by
  unfold XE;rw[YjC,if_neg (by decide),if_neg (by rw[e2];decide)]
 obtain⟨_,h2,_⟩:=U0 e3 (fun f hf=>by
  rw[List.mem_singleton] at hf;subst hf;intro h;have h2:=Yfi strHi 6;have hz:strHi.size=2:=rfl;dsimp only at h
  omega)
 refine⟨_,e3,?_,h2⟩;show(Vd _).toArray.size=102;rw[List.size_toArray,e2]
set_option maxHeartbeats 4000000 in
theorem Jv (w:World):Calls Tryz.prog 11 #[] w fun e w'=>e=.returned (.bool true)/\Below w.heap.size w w':=by
 obtain⟨s,h1,h2,h3⟩:=YfA
 have CW:Hid (∀W a cap,FRow W a [(strA,strHi)]->Calls Tryz.prog 7 #[.slice a 1 cap,.int .i64 6] W fun e w'=>e=.returned (.tuple #[.string s,.int .i64 0])/\Below W.heap.size W w'):=by
  intro W a cap hr;refine(Ycn (fun x=>dflB x 6) [(strA,strHi)] a cap 6 (by decide) (by decide) (fun _ f hf W'=>?_) W hr).mono ?_
  . rw[List.mem_singleton] at hf
    subst hf;exact UY strHi 6 (by decide) (by decide) W'
  rintro e w' ⟨hb,⟨k,hk,_,_⟩|⟨x,hx,he⟩⟩
  . rw[h1] at hk;cases hk
  rw[h1] at hx;injection hx with hx;subst hx;exact⟨he,hb⟩
 have CR:Hid (∀W,Calls Tryz.prog 13 #[.string s] W fun e w'=>Below W.heap.size W w'/\∃a cap,e=.returned (.tuple #[.slice a 1 cap,.int .i64 0])/\FRow w' a [(strA,strHi)]):=by
  intro W;refine(YeL s (by omega) W).mono ?_;rintro e w' ⟨hb,⟨k,hk,_,_⟩|⟨l,v,hl,he,hv⟩⟩
  . rw[h3] at hk;cases hk
  rw[h3] at hl;injection hl with hl;subst hl;obtain⟨a,cap,rfl,hr⟩:=hv.view;exact⟨hb,a,cap,he,hr⟩
 have hsI:(s.size:Int)=102:=by omega
 clear h1 h3
 have hr0:FRow (w.alloc (.cells #[.string strA,.string strHi] 44)) (some ⟨w.heap.size,0,none⟩) [(strA,strHi)]:=fun k hk=>by
  have:k=0:=by simp at hk;exact hk
  subst this;have hb:=Blk.new w 44 #[.string strA,.string strHi];exact⟨_,0,rfl,hb.lt,hb.cell 0,hb.cell 1⟩
 have HR0:=Qf hr0;have HB0:=Qf ((Below.refl w.heap.size w).alloc (Qa _) (.cells #[.string strA,.string strHi] 44));clear hr0;go_enter Tryz.func11,Tryz.ntmps11;go_wp2_with fail;refine(CW.out _ _ _ HR0.out).mono ?_;rintro e w1 ⟨rfl,hb1⟩;have HB1:=Qf (Yk HB0.out hb1);clear hb1;go_wp2_with fail;refine(CR.out _).mono ?_;rintro e w2 ⟨hb2,a,cap,rfl,hr2⟩;have HB2:=Qf (Yk HB1.out hb2);obtain⟨b,off,rfl,hbl,c0,c1⟩:=hr2 0 (by decide);simp only[Nat.zero_mul,Nat.add_zero] at c0 c1;have d0:w2.cell? ⟨b,off,none⟩=some (.string ⟨#[97]⟩):=c0;have d1:w2.cell? ⟨b,off+1,none⟩=some (.string ⟨#[104,105]⟩):=c1;clear hb2 hr2 c0 c1;go_wp2_with fail;go_ret;exact⟨rfl,HB2.out⟩
open Go.ChangeShapes Go.WideShapes Go.ChangeAt Go.RowKit
theorem own:ownKnob Tryz.prog.godebug=none:=by kernel_rfl
theorem Jk:laidOutB Tryz.prog=true:=by kernel_rfl
theorem Ymf {a:Int} (h:(Lit.int .u32 a).wf=true):∃n:Nat,a=(n:Int)/\n<4294967296:=by
 have h1:IntKind.u32.min=0:=rfl;have h2:IntKind.u32.max=4294967295:=rfl;simp only[Lit.wf,Bool.and_eq_true,decide_eq_true_eq,h1,h2] at h;exact⟨a.toNat,by omega,by omega⟩
theorem Ynv {a:Int} (h:(Lit.int .i64 a).wf=true):-9223372036854775808<=a/\a<=9223372036854775807:=by
 have h1:IntKind.i64.min = -9223372036854775808:=rfl;have h2:IntKind.i64.max=9223372036854775807:=rfl
 simpa only[Lit.wf,Bool.and_eq_true,decide_eq_true_eq,h1,h2] using h
theorem Ycd (s:ByteArray):s.data.toList.length=s.size:=by simp
open Go.ChangeShapes Go.WideShapes Go.ChangeAt Go.RowKit
open Go.ChangeMaps (open_string shut_string)
open Go.Deep (oneCellFields hone_of)
set_option maxRecDepth 100000
section
variable {H:Type} {enc:TypeId × Value->H} {W:World} {base:Nat} {spare:Nat->Bool} {held:Bool}
theorem Yaw:∃f0 f1 f2 f3 f4 f5:Field,Tryz.prog.underlying 49=some (.struct #[f0,f1,f2,f3,f4,f5])/\f0.type=9/\f1.type=3/\f2.type=40/\f3.type=3/\f4.type=3/\f5.type=3/\oneCellFields Tryz.prog #[f0,f1,f2,f3,f4,f5]=true:=by
 refine⟨_,_,_,_,_,_,Tryz.underlying49,rfl,rfl,rfl,rfl,rfl,rfl,by kernel_rfl⟩
theorem Ygx {n:Nat} {cs':List Value} {d:DataW H × List MemPlace} (hlen:cs'.length=6) (h2:DataW.trod enc Tryz.prog W base spare held n 49 cs'=some d) :
 ∃q:Hd,cs'=q.cells.toList/\q.crc<4294967296/\q.name.size<=Rows.uptoBulk d.1/\q.name.size<=maxLen/\((∀n ∈ d.1.weights Tryz.prog 49,n<=reachBytes)->q.name.size<=reachBytes):=by
 obtain⟨f0,f1,f2,f3,f4,f5,hs,t0,t1,t2,t3,t4,t5,hone⟩:=Yaw;obtain⟨xs,k,_,hxy,_,hxl,hf⟩:=DataW.trod_struct hs h2;obtain⟨o0,k0⟩:=hone_of hone 0 f0 rfl;obtain⟨o1,k1⟩:=hone_of hone 1 f1 rfl;obtain⟨o2,k2⟩:=hone_of hone 2 f2 rfl;obtain⟨o3,k3⟩:=hone_of hone 3 f3 rfl;obtain⟨o4,k4⟩:=hone_of hone 4 f4 rfl;obtain⟨o5,k5⟩:=hone_of hone 5 f5 rfl
 match xs,hxl,cs',hlen with
 |[y0,y1,y2,y3,y4,y5],_,[v0,v1,v2,v3,v4,v5],_=>
  have g0:=hf 0 f0 rfl;have g1:=hf 1 f1 rfl;have g2:=hf 2 f2 rfl;have g3:=hf 3 f3 rfl;have g4:=hf 4 f4 rfl;have g5:=hf 5 f5 rfl;simp[o0,o1,o2,o3,o4,o5,k0,k1,k2,k3,k4,k5] at g0 g1 g2 g3 g4 g5;rw[t0] at g0;rw[t1] at g1;rw[t2] at g2;rw[t3] at g3;rw[t4] at g4;rw[t5] at g5;obtain⟨s0,e0,hy0,z0⟩:=DataW.trod_string Tryz.underlying9 g0;obtain⟨s1,e1,_,_⟩:=DataW.trod_int Tryz.underlying3 g1;obtain⟨s2,e2,_,w2⟩:=DataW.trod_int Tryz.underlying40 g2;obtain⟨s3,e3,_,_⟩:=DataW.trod_int Tryz.underlying3 g3;obtain⟨s4,e4,_,_⟩:=DataW.trod_int Tryz.underlying3 g4;obtain⟨s5,e5,_,_⟩:=DataW.trod_int Tryz.underlying3 g5;simp at e0 e1 e2 e3 e4 e5;subst e0 e1 e2 e3 e4 e5;obtain⟨c,rfl,hc⟩:=Ymf w2;have hl:s0.data.toList.length=s0.size:=by simp
  refine⟨⟨s0,s1,c,s3,s4,s5⟩,rfl,hc,?_,z0,fun hw=>?_⟩
  . rw[hxy]
    show s0.size<=Rows.uptoBulk (.agg ([y0,y1,y2,y3,y4,y5].map (·.1)));simp only[Rows.uptoBulk,List.map_cons,Rows.uptoBulkAll,hy0];omega
  have h1:=hw s0.data.toList.length (by
   rw[hxy];simp only[DataW.weights,hs];refine DataW.weights_mem_each (j:=0) (t:=f0.type) rfl rfl _ ?_;show _ ∈ y0.1.weights _ _;rw[hy0]
   simp[DataW.weights])
  show s0.size<=_;omega
theorem Yic {v:Value} {d:DataW H} {p:List MemPlace} {b0:Nat} {r:Reach} (hv:Value.okWide Tryz.prog W r b0 49 v) (h:DataW.Trod enc Tryz.prog W base (fun _=>true) held 49 v d p) :
 ∃q:Hd,v=q.val/\q.crc<4294967296/\q.name.size<=maxLen/\((∀n ∈ d.weights Tryz.prog 49,n<=reachBytes)->q.name.size<=reachBytes):=by
 obtain⟨f0,f1,f2,f3,f4,f5,hs,_⟩:=Yaw;have hce:Tryz.prog.cellsOf 49=6:=by kernel_rfl
 obtain⟨cs,rfl,hsz⟩:=okWide_struct hs hv;obtain⟨fuel,hf⟩:=h;have hl6:cs.toList.length=6:=by simpa using hsz.trans hce
 obtain⟨q,hq,h3,_,h5,h6⟩:=Ygx hl6 hf;refine⟨q,?_,h3,h5,h6⟩;unfold Hd.val
 congr 1
 exact Array.ext' hq
end
theorem Yg9 (a:Option Addr) (n cap:Nat) (lv:Int) (h:lv<0\/9<lv) (w:World) :
 Calls Tryz.prog 7 #[.slice a n cap,.int .i64 lv] w fun e w'=>e=.returned (.tuple #[.string ⟨#[]⟩,.int .i64 1])/\w=w':=by
 by_cases h0:lv<0
 . have d0:decide (lv<0)=true:=by rw[decide_eq_true_eq];exact h0
   clear h h0;go_enter Tryz.func7,Tryz.ntmps7;go_wp2_with fail;go_ret2;exact⟨rfl,rfl⟩
 have d0:decide (lv<0)=false:=by rw[decide_eq_false_iff_not];exact h0
 have d1:decide (9<lv)=true:=Qg (by omega);clear h h0;go_enter Tryz.func7,Tryz.ntmps7;go_wp2_with fail;go_ret2;exact⟨rfl,rfl⟩
theorem Yfs (D:ByteArray->ByteArray):∀(L:List Fl) (n:Nat),(∀f ∈ L,f.2.size<=400/\f.1.size<=64)->(YH (YS D L n)).length<=494*L.length/\(idxH ((YS D L n).map Part.h)).length<=110*L.length:=by
 intro L
 induction L with
 |nil=>intro n _;exact⟨Qa _,Qa _⟩
 |cons f r ih=>
  intro n hf;obtain⟨g1,g2⟩:=hf f (List.mem_cons_self ..);obtain⟨i1,i2⟩:=ih (n+(Xv (YQ D f n)).length) fun x hx=>hf x (List.mem_cons_of_mem _ hx);have hl:=Jb D f n;have e1:YH (YQ D f n::YS D r (n+(Xv (YQ D f n)).length))=Xv (YQ D f n)++YH (YS D r (n+(Xv (YQ D f n)).length)):=rfl;have e2:∀(x:Hd) (y:List Hd),idxH (x::y)=X6 x++idxH y:=fun _ _=>rfl;rw[YS,e1,List.map_cons,e2,List.length_append,List.length_append,VC,(XM D f n).1,List.length_cons];omega
theorem YaU {D:ByteArray->ByteArray} {L:List Fl} {s:ByteArray} (h:XE D L=.ok s) (hf:∀f ∈ L,f.2.size<=400):s.size<=22+604*L.length/\chkF L=0:=by
 unfold XE at h;by_cases c1:chkF L ≠ 0
 . rw[if_pos c1] at h;cases h
 rw[if_neg c1] at h;have c1:chkF L=0:=Classical.byContradiction fun g=>c1 g;by_cases c2:262144<(Vd (YS D L 0)).length
 . rw[if_pos c2] at h;cases h
 rw[if_neg c2] at h;injection h with h;subst h;refine⟨?_,c1⟩;have k3:=Uw L _ (KT c1).2;obtain⟨h1,h2⟩:=Yfs D L 0 fun f hh=>⟨hf f hh,JV (k3 f hh).2⟩;show(Vd (YS D L 0)).toArray.size<=_;rw[List.size_toArray];unfold Vd;rw[List.length_append,YZ];omega
theorem Ydt (L:List Fl) (a:Option Addr) (cap lv:Nat) (hlv:lv<=9) (hL:L.length<=100000) (hf:∀f ∈ L,f.2.size<=400) (w:World) (hr:FRow w a L) :
 Calls Tryz.prog 7 #[.slice a L.length cap,.int .i64 (lv:Int)] w (Ydp w (XE (fun x=>dflB x lv) L)):=
 Ycn (fun x=>dflB x lv) L a cap lv hlv (by omega) (fun _ f h W=>UY f.2 lv hlv (by have:=hf f h;omega) W) w hr
theorem Yjr (A B:List Part):YH (A++B)=YH A++YH B:=by unfold YH;rw[List.flatMap_append]
theorem Ygd:∀(A:List Part) (n:Nat) (c:Part) (B:List Part),Ur n (A++c::B)->c.h.place=((n+(YH A).length:Nat):Int)/\c.h.packed=(c.d.size:Int)/\c.h.Fit:=by
 intro A
 induction A with
 |nil=>intro n c B h;exact⟨by rw[show YH []=[] from rfl];exact h.1,h.2.1,h.2.2.1⟩
 |cons a r ih=>
  intro n c B h;obtain⟨_,_,_,h4⟩:=h;have:=ih _ c B h4;have e1:YH (a::r)=Xv a++YH r:=rfl;rw[e1,List.length_append,V6];rw[show n+30+a.h.name.size+a.d.size+(YH r).length=n+(30+a.h.name.size+a.d.size+(YH r).length) by omega] at this;exact this
theorem Yl5 {s:ByteArray} {P:List Part} (hs:s.data.toList=Vd P) (hP:Ur 0 P) (j:Nat) (hj:j<P.length) :
 ∃(n0:Nat) (p q:List UInt8),(P[j]).h.place=(n0:Int)/\(P[j]).h.packed=((P[j]).d.size:Int)/\(P[j]).h.Fit/\s.data.toList=p++(Vj (P[j]).h++(P[j]).d.data.toList++q)/\p.length=n0:=by
 have e:P=P.take j++P[j]::P.drop (j+1):=by rw[<-List.drop_eq_getElem_cons hj,List.take_append_drop]
 generalize P[j]=c at e ⊢;have hp2:Ur 0 (P.take j++c::P.drop (j+1)):=by rw[<-e];exact hP
 obtain⟨h1,h2,h3⟩:=Ygd (P.take j) 0 c (P.drop (j+1)) hp2;rw[Nat.zero_add] at h1;refine⟨(YH (P.take j)).length,YH (P.take j),YH (P.drop (j+1))++YJ (P.map Part.h) ((YH P).length:Int),h1,h2,h3,?_,rfl⟩
 have e2:YH P=YH (P.take j)++(Xv c++YH (P.drop (j+1))):=by
  conv=>lhs;rw[e,Yjr]
  rfl
 rw[hs];unfold Vd;rw[e2];unfold Xv;simp only[List.append_assoc]
theorem Yki (D:ByteArray->ByteArray):∀(L:List Fl) (n j:Nat) (hj:j<L.length) (hj2:j<(YS D L n).length),∃n',(YS D L n)[j]=YQ D L[j] n':=by
 intro L
 induction L with
 |nil=>intro n j hj;cases hj
 |cons f r ih=>
  intro n j hj hj2
  cases j with
  |zero=>exact⟨n,rfl⟩
  |succ j=>
   obtain⟨n',h⟩:=ih (n+(Xv (YQ D f n)).length) j (by simpa using hj) (by rw[Yan];simpa using hj);exact⟨n',h⟩
structure AtJ (D:ByteArray->ByteArray) (s:ByteArray) (f:Fl) (h:Hd) (n0:Nat) (d:ByteArray):Prop where
 name:h.name=f.1
 size:h.size=(f.2.size:Int)
 crc:h.crc=VH 0 f.2.data.toList
 place:h.place=(n0:Int)
 packed:h.packed=(d.size:Int)
 fits:n0+30+f.1.size+d.size<=s.size
 here:s.extract (n0+30+f.1.size) (n0+30+f.1.size+d.size)=d
 rest:∃v,s.extract (n0+30+f.1.size) s.size=d++v
 opens : Xn s h = .ok f.2
 way:(h.method=8/\d=D f.2/\d.size<f.2.size)\/(h.method=0/\d=f.2)
theorem YjA {D:ByteArray->ByteArray} {L:List Fl} {s:ByteArray} (h:XE D L=.ok s) (hD:∀f ∈ L,(D f.2).size<f.2.size->Xo (D f.2) f.2.size=some (f.2,(D f.2).size)) (j:Nat) (hj:j<L.length) (hj2:j<((YS D L 0).map Part.h).length) :
 ∃n0 d,AtJ D s L[j] ((YS D L 0).map Part.h)[j] n0 d:=by
 obtain⟨_,_,h3,h4,_⟩:=U0 h hD
 have c1:chkF L=0:=by
  unfold XE at h;by_cases c1:chkF L ≠ 0
  . rw[if_pos c1] at h;cases h
  exact Classical.byContradiction fun g=>c1 g
 have k3:=Uw L _ (KT c1).2 _ (List.getElem_mem hj);have hj3:j<(YS D L 0).length:=by simpa using hj2
 obtain⟨n',hc⟩:=Yki D L 0 j hj hj3;obtain⟨n0,p,q,a1,a2,a3,a4,a5⟩:=Yl5 h3 h4 j hj3;rw[List.getElem_map];obtain⟨b1,b2⟩:=Ybd D L 0 (fun f hf=>⟨(Uw L _ (KT c1).2 f hf).1,hD f hf⟩) _ (List.getElem_mem hj3);have hop:Xn s ((YS D L 0)[j]).h=.ok ((YS D L 0)[j]).x:=YcW a4 (by rw[a1,a5]) a2 a3.2.2.2.1.1 b2 b1;rw[hc] at a1 a2 a3 a4 hop ⊢;obtain⟨f1,f2,f3,f4⟩:=XM D L[j] n';have hl:s.data.toList.length=s.size:=by simp
 have hd:(YQ D L[j] n').d.data.toList.length=(YQ D L[j] n').d.size:=by simp
 have hz:s.size=n0+(30+(L[j]).1.size+(YQ D L[j] n').d.size+q.length):=by rw[<-hl,a4];simp only[List.length_append,VS,hd,a5,f1]
 have hpl:(p++Vj (YQ D L[j] n').h).length=n0+30+(L[j]).1.size:=by rw[List.length_append,VS,a5,f1];omega
 refine⟨n0,(YQ D L[j] n').d,⟨f1,f3,f4,a1,a2,by omega,?_,⟨⟨q.toArray⟩,?_⟩,by rw[hop,f2],?_⟩⟩
 . exact YaD (p:=p++Vj (YQ D L[j] n').h) (q:=q) (by rw[a4];simp only[List.append_assoc]) hpl
 . apply ByteArray.ext
   apply Array.ext';rw[UX,ByteArray.data_append,Array.toList_append,a4,<-List.append_assoc,<-List.append_assoc,List.append_assoc (p++Vj _),<-hpl,List.drop_left]
 unfold YQ;split
 . next hh=>exact .inl ⟨rfl,rfl,hh⟩
 exact .inr ⟨rfl,rfl⟩
set_option maxHeartbeats 8000000 in
theorem Yga (L:List Fl) (a:Option Addr) (cap:Nat) (hL:L.length<=100000000) (hn:∀f ∈ L,f.1.size<=maxLen) (w:World) (hr:FRow w a L) :
 Calls Tryz.prog 8 #[.slice a L.length cap] w fun e w'=>e=.returned (.int .i64 (chkF L:Int))/\Below w.heap.size w w':=by
 have HR:=Qf hr;have Hn:=Qf hn;have HB0:=Qf (Below.refl w.heap.size w);have HF:Hid (chkF L=if 200<L.length then 2 else chkL ⟨#[]⟩ L):=rfl;obtain⟨res,Hres⟩:=Qi (chkF L);rw[Hres.out] at HF ⊢;obtain⟨M,HM⟩:=Qi (L.length);rw[HM.out] at hL HF ⊢;clear hr hn;by_cases h200:200<M
 . have d1:decide ((200:Int)<(M:Int))=true:=Qg (by omega)
   have d1b:decide (200<M)=true:=Qg (by omega);have hres:res=2:=by rw[HF.out,if_pos h200]
   subst hres;clear HF;go_enter Tryz.func8,Tryz.ntmps8;go_wp2_with fail;go_ret;exact⟨rfl,HB0.out⟩
 have d1:decide ((200:Int)<(M:Int))=false:=Qh (by omega);have d1b:decide (200<M)=false:=Qh (by omega)
 have HF2:Hid (res=chkL ⟨#[]⟩ (L.drop 0)):=by show _=_;rw[HF.out,if_neg h200];rfl
 clear HF;go_enter Tryz.func8,Tryz.ntmps8;go_wp2_with fail
 go_loopw [10] (fun j_ wr=>∃(j:Nat) (last:ByteArray),j<=M/\j_=.int .i64 (j:Int)/\Hid (j=0->last=⟨#[]⟩)/\Hid (∀i,j=i+1->∃f,L[i]?=some f/\f.1=last)/\Hid (res=chkL last (L.drop j))/\Hid (Below w.heap.size w wr)) (fun j _=>M-(intOf j).toNat)
 case atStart=>exact⟨0,⟨#[]⟩,Nat.zero_le _,rfl,(fun _=>rfl),(fun i h=>by cases h),HF2,HB0⟩
 clear HF2 HB0;obtain⟨j,last,hj,rfl,HL0,HL1,HC,HBl⟩:=hrel;by_cases hlt:j<M
 . obtain⟨dj,djb⟩:=Qj (show j<M by omega)
   have hjI:(j:Int)<(M:Int):=by omega
   have hjL:j<L.length:=by rw[HM.out];exact hlt
   obtain⟨b,off,rfl,hbl0,c0',c1'⟩:=HR.out j hjL;have hC:=HC.out;rw[List.drop_eq_getElem_cons hjL] at hC;have hsz:=Hn.out _ (List.getElem_mem hjL);have HNx:Hid (∃h,L[j]?=some h/\h=L[j]):=⟨L[j],List.getElem?_eq_getElem hjL,rfl⟩;obtain⟨f,Hf⟩:=Qi (L[j]);rw[Hf.out] at c0' c1' hC hsz HNx;obtain⟨nm,dt⟩:=f;dsimp only at c0' c1' hsz;have k0:=(HBl.out.cell (p:=⟨b,off+j*2,none⟩) hbl0).trans c0';have k1:=(HBl.out.cell (p:=⟨b,off+j*2+1,none⟩) hbl0).trans c1';have HC2:Hid (res=if 65536<dt.size then 2 else if !nmB nm||Xy nm last then 4 else chkL nm (L.drop (j+1))):=hC;have CN:=Qf (fun W=>Yai nm hsz W);have HFl:Hid (nmB nm=true->Xy nm ⟨#[]⟩=false):=fun h=>Yfe h;obtain⟨nb,Hnb⟩:=Qi (nmB nm);rw[Hnb.out] at CN HC2 HFl;obtain⟨x,hx⟩:∃R,Op.bytesLess nm.toList last.toList=R:=⟨_,rfl⟩;obtain⟨y,hy⟩:∃R,(nm.toList==last.toList)=R:=⟨_,rfl⟩;have hxy:Xy nm last=(x||y):=by unfold Xy;rw[hx,hy]
   have HBn:=Qf (Blk.new wr 70 #[.string nm,.string dt]);have HBa:=Qf (HBl.out.alloc HBl.out.size (.cells #[.string nm,.string dt] 70));have hb0:=(Below.refl wr.heap.size wr).alloc (Qa _) (.cells #[.string nm,.string dt] 70)
   have hprev:∀i,j=i+1->wr.cell? ⟨b,off+i*2,none⟩=some (.string last):=fun i hi=>by
    obtain⟨hp,e1,e2⟩:=HL1.out i hi;have hi2:i<L.length:=(by omega);obtain⟨b',off',ea,hbl',e3,_⟩:=HR.out i hi2;simp only[Option.some.injEq,Addr.mk.injEq] at ea;obtain⟨rfl,rfl,_⟩:=ea;rw[List.getElem?_eq_getElem hi2] at e1;simp only[Option.some.injEq] at e1;have:=(HBl.out.cell (p:=⟨b,off+i*2,none⟩) hbl').trans e3;rw[this,e1,<-e2]
   have hblr:b<wr.heap.size:=Qb hbl0 HBl.out.size;have hprev2:∀i,j=i+1->(wr.alloc (.cells #[.string nm,.string dt] 70)).cell? ⟨b,off+i*2,none⟩=some (.string last):=fun i hi=>(hb0.cell (p:=⟨b,off+i*2,none⟩) hblr).trans (hprev i hi);have HPv:=Qf hprev2;clear hC HC hjL hbl0 Hf c0' c1' hsz hprev hprev2 hblr hb0;go_upto_region 6 with fail;obtain⟨G,HG⟩:=Qi (wr.heap.size);rw[HG.out] at HBn ⊢;obtain⟨w2,HW2⟩:=Qi (wr.alloc (.cells #[.string nm,.string dt] 70));rw[HW2.out] at HBn HBa HPv ⊢;clear HW2 k0 k1;have k0:w2.cell? ⟨G,0,none⟩=some (.string nm):=HBn.out.cell 0;have k1:w2.cell? ⟨G,1,none⟩=some (.string dt):=HBn.out.cell 1;by_cases hbig:65536<dt.size
   . have d2:decide ((65536:Int)<(dt.size:Int))=true:=Qg (by omega)
     have d2b:decide (65536<dt.size)=true:=Qg (by omega);have hres:res=2:=(by rw[HC2.out,if_pos hbig]);subst hres;clear HC2 HFl HPv HL0 HL1 HNx hxy;go_wp2_with fail;go_ret;exact⟨rfl,HBa.out⟩
   have d2:decide ((65536:Int)<(dt.size:Int))=false:=Qh (by omega);have d2b:decide (65536<dt.size)=false:=Qh (by omega)
   have HC3:Hid (res=if (!nb||Xy nm last)=true then 4 else chkL nm (L.drop (j+1))):=by show _=_;rw[HC2.out,if_neg hbig]
   clear HC2;go_upto_region 8 with fail;clear d2 d2b
   cases nb with
   |false=>
    have hres:res=4:=(by rw[HC3.out];rfl);subst hres;clear HC3 HFl HPv HL0 HL1 HNx hxy
    go_quiet ((go_at_call 18;exact Calls.quiet_of_same ((CN.out _).mono fun _ _ ⟨h1,h2⟩=>⟨h1,h2.symm⟩)))
    all_goals
     go_wp2_with fail;go_ret;exact⟨rfl,Yh HBa.out _⟩
   |true=>
    by_cases hj0:j=0
    . have hl0:=HL0.out hj0
      have hsf:Xy nm last=false:=by rw[hl0];exact HFl.out rfl
      have HC5:Hid (res=chkL nm (L.drop (j+1))):=by show _=_;rw[HC3.out,hsf];rfl
      have e0:decide ((0:Int)<(j:Int))=false:=Qh (by omega);have e0b:decide (0<j)=false:=Qh (by omega);clear HC3 HFl HPv HL0 HL1 hxy hx hy hl0 hsf hj0
      go_quiet ((go_at_call 18;exact Calls.quiet_of_same ((CN.out _).mono fun _ _ ⟨h1,h2⟩=>⟨h1,h2.symm⟩)))
      all_goals
       go_wp2_with fail;go_roundw
       case rel=>exact⟨j+1,nm,by omega,by go_num,(fun h=>by omega),(fun i h=>by
        obtain⟨hh,e1,e2⟩:=HNx.out;have:i=j:=(by omega);subst this
        exact⟨hh,e1,by rw[e2]⟩),HC5,Qf (Yh HBa.out _)⟩
       simp[intOf];omega
    obtain⟨i1,hi1⟩:∃i1,j=i1+1:=⟨j-1,by omega⟩;have c1:=HPv.out i1 hi1;have e0:decide ((0:Int)<(j:Int))=true:=Qg (by omega);have e0b:decide (0<j)=true:=Qg (by omega);have ew:IntKind.i64.wrap ((j:Int)-1)=(i1:Int):=(by rw[IntKind.wrap_i64];omega);have ei:(i1:Int)<(M:Int):=(by omega);have Hi1:=Qf hi1;rw[hxy] at HC3;clear hi1 HPv HL0 HL1 HFl hj0 hxy;by_cases hv:(x||y)=true
    . have hres:res=4:=by rw[HC3.out,hv];rfl
      subst hres;clear HC3;cases x<;>cases y<;>simp at hv
      all_goals
       go_quiet ((go_at_call 18;exact Calls.quiet_of_same ((CN.out _).mono fun _ _ ⟨h1,h2⟩=>⟨h1,h2.symm⟩)))
       all_goals
        go_wp2_with fail;go_ret;exact⟨rfl,Yh HBa.out _⟩
    have hx2:x=false:=(by cases x<;>simp_all);have hy2:y=false:=(by cases y<;>simp_all);subst hx2 hy2;have HC5:Hid (res=chkL nm (L.drop (j+1))):=HC3.out;clear HC3 hv
    go_quiet ((go_at_call 18;exact Calls.quiet_of_same ((CN.out _).mono fun _ _ ⟨h1,h2⟩=>⟨h1,h2.symm⟩)))
    all_goals
     go_wp2_with fail;go_roundw
     case rel=>exact⟨j+1,nm,by omega,by go_num,(fun h=>by omega),(fun i h=>by
      obtain⟨hh,e1,e2⟩:=HNx.out;have:i=j:=(by omega);subst this
      exact⟨hh,e1,by rw[e2]⟩),HC5,Qf (Yh HBa.out _)⟩
     simp[intOf];omega
 obtain rfl:j=M:=by omega
 have dj:decide ((j:Int)<(j:Int))=false:=Qh (by omega);have hres:res=0:=by rw[HC.out,List.drop_of_length_le (by rw[HM.out];exact Qa _)];rfl
 subst hres;go_wp2_with fail;go_ret;exact⟨rfl,HBl.out⟩
open Go.ChangeShapes Go.WideShapes Go.ChangeAt Go.RowKit
open Go.ChangeMaps (open_string shut_string)
open Go.Deep (oneCellFields hone_of)
set_option maxRecDepth 100000
section
variable {H:Type} {enc:TypeId × Value->H} {W:World} {base:Nat} {spare:Nat->Bool} {held:Bool}
theorem Yeb:∃f0 f1:Field,Tryz.prog.underlying 44=some (.struct #[f0,f1])/\f0.type=9/\f1.type=9/\oneCellFields Tryz.prog #[f0,f1]=true:=by
 refine⟨_,_,Tryz.underlying44,rfl,rfl,by kernel_rfl⟩
theorem Ygi {v:Value} {d:DataW H} {p:List MemPlace} {b0:Nat} {r:Reach} (hv:Value.okWide Tryz.prog W r b0 22 v) (h:DataW.Trod enc Tryz.prog W base (fun _=>true) held 22 v d p) :
 ∃a cap L,v=.slice a (List.length L) cap/\(∀f ∈ L,f.1.size<=maxLen/\f.2.size<=maxLen)/\FRow W a L:=by
 obtain⟨a,len,cap,rfl⟩:=okWide_slice Tryz.underlying22 hv;obtain⟨fuel,hf⟩:=h;obtain⟨f0,f1,hs,t0,t1,hone⟩:=Yeb;have hce:Tryz.prog.cellsOf 44=2:=by kernel_rfl
 rcases Go.Deep.open_slice Tryz.underlying22 hf with⟨hcs,_⟩|⟨x,l,c,m,n,D,Pl,hcs,_,hl,hm,hmm,_,hx⟩
 . simp[Value.cells] at hcs
   obtain⟨rfl,rfl,rfl⟩:=hcs;exact⟨none,0,[],rfl,(fun f hf=>by cases hf),fun k hk=>by cases hk⟩
 simp[Value.cells] at hcs;obtain⟨rfl,rfl,rfl⟩:=hcs;simp at hmm;subst hmm
 have each:∀i,i<m->∃q:Fl,(q.1.size<=maxLen/\q.2.size<=maxLen)/\W.cell? (x.add (i*2))=some (.string q.1)/\W.cell? (x.add (i*2+1))=some (.string q.2):=by
  intro i hi;obtain⟨cs',h1,h2⟩:=hx i hi;rw[hce] at h1;obtain⟨_,hlen,hcell⟩:=World.cells?_some h1;obtain⟨xs,k,_,hxy,_,hxl,hf⟩:=DataW.trod_struct hs h2;obtain⟨o0,k0⟩:=hone_of hone 0 f0 rfl;obtain⟨o1,k1⟩:=hone_of hone 1 f1 rfl
  match xs,hxl,cs',hlen with
  |[y0,y1],_,[v0,v1],_=>
   have g0:=hf 0 f0 rfl;have g1:=hf 1 f1 rfl;simp[o0,o1,k0,k1] at g0 g1;rw[t0] at g0;rw[t1] at g1;obtain⟨s0,e0,_,z0⟩:=DataW.trod_string Tryz.underlying9 g0;obtain⟨s1,e1,_,z1⟩:=DataW.trod_string Tryz.underlying9 g1;have c0:=hcell 0 (by omega);have c1:=hcell 1 (by omega);rw[Go.Deep.add_add] at c0 c1;simp at e0 e1;subst e0 e1;exact⟨(s0,s1),⟨z0,z1⟩,by simpa using c0,by simpa using c1⟩
 obtain⟨q,hq⟩:=Go.Deep.choose_lt each;have hln:((List.range len).map q).length=len:=by simp
 refine⟨some x,m,(List.range len).map q,by rw[hln],?_,?_⟩
 . intro f hf
   rw[List.mem_map] at hf;obtain⟨i,hi,rfl⟩:=hf;rw[List.mem_range] at hi;exact(hq i (by omega)).1
 intro k hk;rw[hln] at hk;obtain⟨_,d0,d1⟩:=hq k (by omega);obtain⟨b,off,spot⟩:=x
 have hspot:spot=none:=by
  obtain⟨_,d00,_⟩:=hq 0 (by omega)
  simpa [Addr.add] using World.cell?_spot d00
 subst hspot
 have e:∀j,(⟨b,off,none⟩:Addr).add j=⟨b,off+j,none⟩:=fun j=>by unfold Addr.add;split<;>simp_all
 rw[e] at d0 d1;refine⟨b,off,rfl,World.block_lt_of_cell? _ _ d0,?_,?_⟩
 . rw[List.getElem_map,List.getElem_range];exact d0
 rw[List.getElem_map,List.getElem_range];exact d1
end
end Go.Proofs.YthehocmfpoglgaaGreat
