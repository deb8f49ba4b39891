/- deflate.dynamic: a dynamic block is written. Printed by gen_def5.py. Conditions: at most 4000 tokens. -/
import Derived.Test.YthehocmfpoglgaaGreatJeonkgk
import Derived.Test.YthehocmfpoglgaaGreatJddomja
import Derived.Deep.RegionHeld3
import Derived.Deep.AppendLies
import Derived.Deep.CutBlock
import Derived.Deep.DeepCutAuto
namespace Go.Proofs.YthehocmfpoglgaaGreat
open Go.RowKit
set_option maxRecDepth 100000
def nfc (n:Nat) (A:Nat->Nat):Array Value:=Yg n fun i=>.int .i64 ((A i:Nat):Int)
theorem Ybf (n:Nat) (A:Nat->Nat) (i:Nat) (h:i<n):(nfc n A)[i]?=some (.int .i64 ((A i:Nat):Int)):=Yp _ _ _ h
theorem Yao {w:World} {g n:Nat} {A:Nat->Nat} (h:Blk w g 3 (nfc n A)) (k:Nat) (hk:k<=n):IRow w (some ⟨g,0,none⟩) k (fun i=>((A i:Nat):Int)):=(Yjb g n A w h).take k hk
theorem K9 (A:Nat->Nat):(lens fun i=>((A i:Nat):Int))=A:=by funext i;unfold lens;simp
theorem Yia:∀q,q<19->ordL.getD q 0<19:=by decide
theorem Ydz (f:Nat->Nat) (low q:Nat) (h:low<q+1) (h0:f q=0):XG f low (q+1)=XG f low q:=by
 conv=>lhs;unfold XG
 rw[if_pos ⟨h,h0⟩]
theorem Ka (f:Nat->Nat) (low n:Nat) (h:¬(low<n/\f (n-1)=0)):XG f low n=n:=by
 cases n with
 |zero=>rfl
 |succ n=>unfold XG;exact if_neg h
def StB (w:World) (b:Nat) (S:List Stp):Prop:=∃cur,Blk w b 173 cur/\∀i,i<S.length->cur[i*2]?=some (.int .i64 (sp S i).sym)/\cur[i*2+1]?=some (.int .i64 (sp S i).more)
theorem Yl6 {w:World} {base:Nat} {v:Value} {S:List Stp} (h:OwnP 173 w base v S) (h0:0<S.length):∃b cap,v=.slice (some ⟨b,0,none⟩) S.length cap/\StB w b S:=by
 rcases h.2 with⟨rfl,h1⟩|⟨g,cap,cur,rfl,h2,h3,h4,h5,h6,h7⟩
 . omega
 refine⟨g,cap,rfl,cur,h3,fun i hi=>?_⟩
 have hk:∀k,k<S.length*2->cur[k]?=(YN S)[k]?:=fun k hk=>by
  rw[<-h7,List.getElem?_take,if_pos hk,Array.getElem?_toList]
 rw[hk _ (by omega),hk _ (by omega)];exact YfR S i hi
theorem StB.below {w w':World} {b:Nat} {S:List Stp} (h:StB w b S) (hb:Below w.heap.size w w'):StB w' b S:=by
 obtain⟨cur,h1,h2⟩:=h;exact⟨cur,h1.below hb h1.lt,h2⟩
theorem StB.keep {w w':World} {b:Nat} {S:List Stp} (h:StB w b S) (hb:KeepT w w'):StB w' b S:=by
 obtain⟨cur,h1,h2⟩:=h;exact⟨cur,hb b 173 _ (by decide) (by decide) h1,h2⟩
theorem StB.get {w:World} {b:Nat} {S:List Stp} (h:StB w b S) (i:Nat) (hi:i<S.length):w.cell? ⟨b,i*2,none⟩=some (.int .i64 (sp S i).sym)/\w.cell? ⟨b,i*2+1,none⟩=some (.int .i64 (sp S i).more):=by
 obtain⟨cur,h1,h2⟩:=h;exact⟨(Blk.cell h1 _).trans (h2 i hi).1,(Blk.cell h1 _).trans (h2 i hi).2⟩
theorem Ycx (K:Nat->Nat) (hK:∀i,K i<=7) (t:Stp):encN (VW K t)<=14:=by
 have:=hK t.sym.toNat;unfold VW;split
 . simp only[encN,symE];omega
 split
 . simp only[encN,symE];omega
 split
 . simp only[encN,symE];omega
 simp only[encN,symE];omega
theorem Yc4 {w:World} {b k:Nat} {m:Nat->Int} (h:IRow w (some ⟨b,0,none⟩) k m):∀j u,(Yt k m)[j]?=some u->w.cell? ((⟨b,0,none⟩:Addr).add j)=some u:=by
 intro j u hj
 have hjk:j<k:=by
  have:=(List.getElem?_eq_some_iff.1 hj).1
  rwa [YV] at this
 rw[Xp k m j hjk] at hj;obtain⟨b',off',he,_,hc⟩:=h.get j hjk;injection he with he;injection he with e1 e2 e3;subst e1 e2;have e:(⟨b,0,none⟩:Addr).add j=⟨b,0+j,none⟩:=by unfold Addr.add;split<;>simp_all
 rw[e,hc];exact hj
theorem YiO (L:List Int):Yt L.length (ln L)=L.map (Value.int .i64):=by
 apply List.ext_getElem
 . simp[Yt]
 intro i h1 h2;have h:i<L.length:=by simpa [Yt] using h1
 simp[Yt,ln,List.getD,h]
theorem Ybn (n:Nat) (m:Nat->Int):Yt n m=((List.range n).map m).map (Value.int .i64):=by
 unfold Yt;rw[List.map_map];rfl
set_option maxHeartbeats 64000000 in
theorem YaF (w0:World) (P:Nat) (v:Value) (l:List (Nat × Nat)) (S:List Tok) (hS:S.length<=4000) (a:Option Addr) (cap:Nat) (hc:encN l<=1000) (ht:∀t ∈ S,TokW 286 30 t) (W:World) (h:PK w0 W P v l) (hr:TkRow w0 a S) :
 Calls Tryz.prog 65 #[.pointer (some ⟨P,0,none⟩),.slice a S.length cap] W fun e W'=>e=.returned (.tuple #[])/\∃v',PK w0 W' P v' (l++(JN (nlS S) (ndS S) (ncS S) (kL S) (lnS S)++(VK (aL S) (nlS S) (bL S) (ndS S) S++[symE (aL S) (nlS S) 256])))/\KeepT W W':=by
 have CC:=Qf (YgM S (by omega) a cap ht W (hr.below h.2.1 (Qa _)))
 have CL1:Hid (∀(W:World) (g:Nat),Blk W g 3 (Yg 286 (cntC (LSy S)))->Calls Tryz.prog 91 #[.slice (some ⟨g,0,none⟩) 286 286,.int .i64 15] W fun e w'=>∃g,e=.returned (.tuple #[.slice (some ⟨g,0,none⟩) 286 286,.int .i64 0])/\W.heap.size<=g/\Blk w' g 3 (nfc 286 (aL S))/\Below W.heap.size W w'):=
  fun W g hB=>Yb4 g 286 286 (cn (LSy S)) (by decide) 15 (by decide) (by decide) (YmM _ _ (by rw[Yeq];omega)) (Qe (Kn _ _) (by decide)) W (.inr ⟨g,0,rfl,hB.lt,fun i hi=>by rw[Nat.zero_add];exact(Blk.cell hB i).trans (Yp _ _ _ hi)⟩)
 have CL2:Hid (∀(W:World) (g:Nat),Blk W g 3 (Yg 30 (cntC (DSy S)))->Calls Tryz.prog 91 #[.slice (some ⟨g,0,none⟩) 30 30,.int .i64 15] W fun e w'=>∃g,e=.returned (.tuple #[.slice (some ⟨g,0,none⟩) 30 30,.int .i64 0])/\W.heap.size<=g/\Blk w' g 3 (nfc 30 (bL S))/\Below W.heap.size W w'):=
  fun W g hB=>Yb4 g 30 30 (cn (DSy S)) (by decide) 15 (by decide) (by decide) (YmM _ _ (Qe (Yer S) (by omega))) (Qe (Kn _ _) (by decide)) W (.inr ⟨g,0,rfl,hB.lt,fun i hi=>by rw[Nat.zero_add];exact(Blk.cell hB i).trans (Yp _ _ _ hi)⟩)
 have CL3:Hid (∀(W:World) (g:Nat),Blk W g 3 (Yg 19 (cntC (usS S)))->Calls Tryz.prog 91 #[.slice (some ⟨g,0,none⟩) 19 19,.int .i64 7] W fun e w'=>∃g,e=.returned (.tuple #[.slice (some ⟨g,0,none⟩) 19 19,.int .i64 0])/\W.heap.size<=g/\Blk w' g 3 (nfc 19 (kL S))/\Below W.heap.size W w'):=
  fun W g hB=>Yb4 g 19 19 (cn (usS S)) (by decide) 7 (by decide) (by decide) (YmM _ _ (Qe (YlA S) (by decide))) (Qe (Kn _ _) (by decide)) W (.inr ⟨g,0,rfl,hB.lt,fun i hi=>by rw[Nat.zero_add];exact(Blk.cell hB i).trans (Yp _ _ _ hi)⟩)
 have CO:=Qf YcU
 have CK:Hid (∀(W:World) (g:Nat),Blk W g 3 (nfc 19 (kL S))->Calls Tryz.prog 63 #[.slice (some ⟨g,0,none⟩) 19 19] W fun e w'=>∃g,e=.returned (.tuple #[.slice (some ⟨g,0,none⟩) 19 19,.int .i64 0])/\Blk w' g 163 (YC 19 (YD (kL S) 19) (kL S))/\Below W.heap.size W w'):=fun W g hB=>by
  have h:=YaH (fun i=>((kL S i:Nat):Int)) 19 (by decide) (fun i _=>by have:=(YaQ S).le i;omega) (by rw[K9];exact Yd1 S) (some ⟨g,0,none⟩) 19 W (Yao hB 19 (Qa _));rw[K9] at h;exact h
 have CA:Hid (∀(W:World) (g:Nat),Blk W g 3 (nfc 286 (aL S))->Calls Tryz.prog 63 #[.slice (some ⟨g,0,none⟩) (nlS S) 286] W fun e w'=>∃g,e=.returned (.tuple #[.slice (some ⟨g,0,none⟩) (nlS S) (nlS S),.int .i64 0])/\Blk w' g 163 (YC (nlS S) (YD (aL S) (nlS S)) (aL S))/\Below W.heap.size W w'):=fun W g hB=>by
  have hn:=KN S;have h:=YaH (fun i=>((aL S i:Nat):Int)) (nlS S) (by omega) (fun i _=>by have:=(YaS S).le i;omega) (by rw[K9];exact Yeo S) (some ⟨g,0,none⟩) 286 W (Yao hB _ hn.2);rw[K9] at h;exact h
 have CB:Hid (∀(W:World) (g:Nat),Blk W g 3 (nfc 30 (bL S))->Calls Tryz.prog 63 #[.slice (some ⟨g,0,none⟩) (ndS S) 30] W fun e w'=>∃g,e=.returned (.tuple #[.slice (some ⟨g,0,none⟩) (ndS S) (ndS S),.int .i64 0])/\Blk w' g 163 (YC (ndS S) (YD (bL S) (ndS S)) (bL S))/\Below W.heap.size W w'):=fun W g hB=>by
  have hn:=Jc S;have h:=YaH (fun i=>((bL S i:Nat):Int)) (ndS S) (by omega) (fun i _=>by have:=(YaR S).le i;omega) (by rw[K9];exact Yen S) (some ⟨g,0,none⟩) 30 W (Yao hB _ hn.2);rw[K9] at h;exact h
 have CBody:Hid (∀(W:World) (v:Value) (l:List (Nat × Nat)) (G1 G2:Nat),encN l<=1000000->PK w0 W P v l->Blk W G1 163 (YC (nlS S) (YD (aL S) (nlS S)) (aL S))->Blk W G2 163 (YC (ndS S) (YD (bL S) (ndS S)) (bL S))->
  Calls Tryz.prog 64 #[.pointer (some ⟨P,0,none⟩),.slice a S.length cap,.slice (some ⟨G1,0,none⟩) (nlS S) (nlS S),.slice (some ⟨G2,0,none⟩) (ndS S) (ndS S)] W fun e W'=>e=.returned (.tuple #[])/\∃v',PK w0 W' P v' (l++VK (aL S) (nlS S) (bL S) (ndS S) S++[symE (aL S) (nlS S) 256])/\KeepT W W'):=fun W v l G1 G2 h0 h1 h2 h3=>
  Yci w0 P v l S a cap G1 (nlS S) (nlS S) G2 (ndS S) (ndS S) (aL S) (bL S) (by omega) (by have:=KN S;omega) (by have:=Jc S;omega) (YaS S).le (YaR S).le
   (fun i hi=>Qb (X1 _ _ i hi (fun i _=>(YaS S).le i) (Yeo S).1) (Qe (Nat.pow_le_pow_right (by decide) ((YaS S).le i)) (by decide)))
   (fun i hi=>Qb (X1 _ _ i hi (fun i _=>(YaR S).le i) (Yen S).1) (Qe (Nat.pow_le_pow_right (by decide) ((YaR S).le i)) (by decide)))
   h0 (YjK S ht) W h1 hr h2 h3
 have hA15:=(YaS S).le;have hB15:=(YaR S).le;have hK7:=(YaQ S).le;have hKp:=Ylo S;have hTr:=Yle S;have hT316:(Ye (lnS S) 0).length<=316:=Ks (lnS S) 316 0 (by have:=YcY S;omega)
 have hT1:0<(Ye (lnS S) 0).length:=by
  rw[Xl (lnS S) 0 (by rw[Yb2];have:=KN S;omega)];simp
 have hTA:Hid (XG (aL S) 257 286=nlS S):=Qf (Eq.refl _);have hTB:Hid (XG (bL S) 1 30=ndS S):=Qf (Eq.refl _);have hTK:Hid (XG (fun i=>kL S (ordL.getD i 0)) 4 19=ncS S):=Qf (Eq.refl _);have hUs:Hid ((Ye (lnS S) 0).map (fun t=>t.sym.toNat)=usS S):=Qf (Eq.refl _);have hLn:Hid ((List.range (nlS S)).map (fun i=>((aL S i:Nat):Int))++(List.range (ndS S)).map (fun i=>((bL S i:Nat):Int))=lnS S):=Qf (Eq.refl _);have hLl:=Yb2 S;have hNL:=KN S;have hND:=Jc S;have hNC:=Yij S;have CP5:=Qf (fun (x:Nat) (v:Value) (l:List (Nat × Nat)) (W:World) (hx:x<4294967296) (hl:encN l<=900000000) (h:PK w0 W P v l)=>XX w0 P v l x 5 5 hx (.inr (.inl ⟨rfl,by decide⟩)) hl W h);have CP4:=Qf (fun (x:Nat) (v:Value) (l:List (Nat × Nat)) (W:World) (hx:x<4294967296) (hl:encN l<=900000000) (h:PK w0 W P v l)=>XX w0 P v l x 4 4 hx (.inr (.inl ⟨rfl,by decide⟩)) hl W h);have CP3:=Qf (fun (x:Nat) (v:Value) (l:List (Nat × Nat)) (W:World) (hx:x<4294967296) (hl:encN l<=900000000) (h:PK w0 W P v l)=>XX w0 P v l x 3 3 hx (.inr (.inl ⟨rfl,by decide⟩)) hl W h);have CP2:=Qf (fun (x:Nat) (v:Value) (l:List (Nat × Nat)) (W:World) (hx:x<4294967296) (hl:encN l<=900000000) (h:PK w0 W P v l)=>XX w0 P v l x 2 2 hx (.inr (.inl ⟨rfl,by decide⟩)) hl W h);have CP7:=Qf (fun (x:Nat) (v:Value) (l:List (Nat × Nat)) (W:World) (hx:x<4294967296) (hl:encN l<=900000000) (h:PK w0 W P v l)=>XX w0 P v l x 7 7 hx (.inr (.inl ⟨rfl,by decide⟩)) hl W h)
 have hpu:∀(g:Nat) (y:Nat) (v:Value) (l:List (Nat × Nat)) (W:World),y<19->encN l<=900000000->PK w0 W P v l->Blk W g 163 (YC 19 (YD (kL S) 19) (kL S))->Calls Tryz.prog 88 #[.pointer (some ⟨P,0,none⟩),.slice (some ⟨g,0,none⟩) 19 19,.int .i64 (y:Int)] W fun e W'=>e=.returned (.tuple #[])/\∃v',PK w0 W' P v' (l++[symE (kL S) 19 y])/\KeepT W W':=
  fun g y v l W hy hl hp hB=>YbS w0 P v l g 19 19 y (YD (kL S) 19) (kL S) hy (by decide) (by have:=(YaQ S).le y;omega) (Qb (X1 _ _ y hy (fun i _=>Qe ((YaQ S).le i) (by decide)) (Yd1 S).1) (Qe (Nat.pow_le_pow_right (by decide) ((YaQ S).le y)) (by decide))) hl W hp hB
 have CS:=Qf (fun (a:Option Addr) (cap:Nat) (W:World) (hr:IRow W a (lnS S).length (ln (lnS S)))=>YhD (lnS S) (by have:=YcY S;omega) a cap W hr);obtain⟨LX,HLX⟩:=Qi (LSy S);obtain⟨DX,HDX⟩:=Qi (DSy S);rw[HLX.out] at CC CL1;rw[HDX.out] at CC CL2;clear HLX HDX;generalize hgA:aL S=A at *;generalize hgB:bL S=B at *;generalize hgK:kL S=K at *;generalize hgN:nlS S=NL at *;generalize hgD:ndS S=ND at *;generalize hgC:ncS S=NC at *;generalize hgL:lnS S=LL at *;generalize hgU:usS S=US at *;generalize hgT:Ye LL 0=T at *;generalize hgM:S.length=M at *;have HA15:=Qf hA15;have HB15:=Qf hB15;have HK7:=Qf hK7;have HKp:=Qf hKp;have CPu:=Qf hpu;have HTr:=Qf hTr;have HLl:=Qf hLl;have HP:=Qf h;have HK0:Hid (KeepT W W):=fun _ _ _ _ _ x=>x;have HTt:Hid (Ye LL 0=T):=Qf hgT;have HcE:=Qf hc;clear hgA hgB hgK hgN hgD hgC hgL hgU hgT hgM hA15 hB15 hK7 hKp hpu hTr hLl h hr hc ht;go_enter Tryz.func65,Tryz.ntmps65;go_wp2_with fail;refine CC.out.mono ?_;rintro e w1 ⟨gl,gd,rfl,-,-,hq1,hq2,hb1⟩;have CLa:=Qf (CL1.out w1 gl hq1);have HC2:=Qf hq2;have HP1:=Qf (HP.out.below hb1);have HK1:=Qf (HK0.out.trans (KeepT.below hb1));clear hq1 hq2 hb1 CC CL1 HP HK0;go_wp2_with fail;refine CLa.out.mono ?_;rintro e w2 ⟨g1,rfl,-,hq1,hb2⟩;have CLb:=Qf (CL2.out w2 gd (HC2.out.below hb2 HC2.out.lt));have HA2:=Qf hq1;have HP2:=Qf (HP1.out.below hb2);have HK2:=Qf (HK1.out.trans (KeepT.below hb2));clear hq1 hb2 HC2 CLa CL2 HP1 HK1;go_wp2_with fail;refine CLb.out.mono ?_;rintro e w3 ⟨g2,rfl,-,hq1,hb3⟩;have HA3:=Qf (HA2.out.below hb3 HA2.out.lt);have HB3:=Qf hq1;have HP3:=Qf (HP2.out.below hb3);have HK3:=Qf (HK2.out.trans (KeepT.below hb3));clear hq1 hb3 CLb HA2 HP2 HK2
 go_upto_block 0 with fail
 go_cut [10] (fun nl_ wx=>nl_=.int .i64 (NL:Int)/\w3=wx)
 case first=>
  go_wp2_with fail
  go_loop [10] (fun nl_=>∃n:Nat,257<=n/\n<=286/\nl_=.int .i64 (n:Int)/\Hid (XG A 257 n=NL)) (fun nl_=>(intOf nl_).toNat)
  case atStart=>exact⟨286,by decide,Qa _,rfl,hTA⟩
  obtain⟨n,hn1,hn2,rfl,HT⟩:=hrel;by_cases h1:257<n
  . obtain⟨q,Hq⟩:∃q,Hid (n=q+1):=⟨n-1,by show _=_;omega⟩
    have hq:q<286:=by have:=Hq.out;omega
    have hqI:(q:Int)<286:=(by omega);have c0:w3.cell? ⟨g1,q,none⟩=some (.int .i64 ((A q:Nat):Int)):=(Blk.cell HA3.out q).trans (Ybf _ _ _ hq)
    have hlow:257<=q:=by have:=Hq.out;omega
    have v1:IntKind.i64.wrap ((n:Int)-1)=(q:Int):=by rw[IntKind.wrap_i64];have:=Hq.out;omega
    have v2:(n:Int)-1=(q:Int):=by have:=Hq.out;omega
    obtain⟨x,Hx⟩:=Qi (A q);rw[Hx.out] at c0;have d1:decide ((257:Int)<(n:Int))=true:=Qg (by omega);have d1b:decide (257<n)=true:=Qg (by omega);by_cases h0:x=0
    . have d2:((x:Int)==0)=true:=by simp;omega
      have d2b:(x==0)=true:=by simp;omega
      have HT2:Hid (XG A 257 q=NL):=by
       show _=_;have h3:=HT.out;rw[Hq.out,Ydz _ _ _ (by omega) (by rw[Hx.out];exact h0)] at h3;exact h3
      clear h0;go_wp2_with fail
      go_round
      case rel=>exact⟨q,hlow,by omega,rfl,HT2⟩
      simp[intOf];omega
    have d2:((x:Int)==0)=false:=(by simp;omega);have d2b:(x==0)=false:=by simp;omega
    have hN:Hid (n=NL):=by
     show _=_;rw[<-HT.out];exact(Ka _ _ _ (fun h=>h0 (by rw[<-Hx.out];have h4:=h.2;rw[Hq.out] at h4;exact h4))).symm
    clear h0;go_wp2_with fail;go_meet;exact⟨by rw[hN.out],rfl⟩
  have d1:decide ((257:Int)<(n:Int))=false:=Qh (by omega);have d1b:decide (257<n)=false:=Qh (by omega)
  have hN:Hid (n=NL):=by
   show _=_;rw[<-HT.out];exact(Ka _ _ _ (fun h=>h1 h.1)).symm
  go_wp2_with fail;go_meet;exact⟨by rw[hN.out],rfl⟩
 case rest=>
 obtain⟨rfl,rfl⟩:=hcut
 go_upto_block 2 with fail
 go_cut [11] (fun nl_ wx=>nl_=.int .i64 (ND:Int)/\w3=wx)
 case first=>
  go_wp2_with fail
  go_loop [11] (fun nl_=>∃n:Nat,1<=n/\n<=30/\nl_=.int .i64 (n:Int)/\Hid (XG B 1 n=ND)) (fun nl_=>(intOf nl_).toNat)
  case atStart=>exact⟨30,by decide,Qa _,rfl,hTB⟩
  obtain⟨n,hn1,hn2,rfl,HT⟩:=hrel;by_cases h1:1<n
  . obtain⟨q,Hq⟩:∃q,Hid (n=q+1):=⟨n-1,by show _=_;omega⟩
    have hq:q<30:=by have:=Hq.out;omega
    have hqI:(q:Int)<30:=(by omega);have c0:w3.cell? ⟨g2,q,none⟩=some (.int .i64 ((B q:Nat):Int)):=(Blk.cell HB3.out q).trans (Ybf _ _ _ hq)
    have hlow:1<=q:=by have:=Hq.out;omega
    have v1:IntKind.i64.wrap ((n:Int)-1)=(q:Int):=by rw[IntKind.wrap_i64];have:=Hq.out;omega
    have v2:(n:Int)-1=(q:Int):=by have:=Hq.out;omega
    obtain⟨x,Hx⟩:=Qi (B q);rw[Hx.out] at c0;have d1:decide ((1:Int)<(n:Int))=true:=Qg (by omega);have d1b:decide (1<n)=true:=Qg (by omega);by_cases h0:x=0
    . have d2:((x:Int)==0)=true:=by simp;omega
      have d2b:(x==0)=true:=by simp;omega
      have HT2:Hid (XG B 1 q=ND):=by
       show _=_;have h3:=HT.out;rw[Hq.out,Ydz _ _ _ (by omega) (by rw[Hx.out];exact h0)] at h3;exact h3
      clear h0;go_wp2_with fail
      go_round
      case rel=>exact⟨q,hlow,by omega,rfl,HT2⟩
      simp[intOf];omega
    have d2:((x:Int)==0)=false:=(by simp;omega);have d2b:(x==0)=false:=by simp;omega
    have hN:Hid (n=ND):=by
     show _=_;rw[<-HT.out];exact(Ka _ _ _ (fun h=>h0 (by rw[<-Hx.out];have h4:=h.2;rw[Hq.out] at h4;exact h4))).symm
    clear h0;go_wp2_with fail;go_meet;exact⟨by rw[hN.out],rfl⟩
  have d1:decide ((1:Int)<(n:Int))=false:=Qh (by omega);have d1b:decide (1<n)=false:=Qh (by omega)
  have hN:Hid (n=ND):=by
   show _=_;rw[<-HT.out];exact(Ka _ _ _ (fun h=>h1 h.1)).symm
  go_wp2_with fail;go_meet;exact⟨by rw[hN.out],rfl⟩
 case rest=>
 obtain⟨rfl,rfl⟩:=hcut;obtain⟨fA,HfA⟩:=Qi ((fun i=>((A i:Nat):Int)));obtain⟨fB,HfB⟩:=Qi ((fun i=>((B i:Nat):Int)))
 have HrA:Hid (IRow w3 (some ⟨g1,0,none⟩) NL fA):=by
  show IRow _ _ _ _;rw[<-HfA.out];exact Yao HA3.out NL hNL.2
 have HrB:Hid (Blk w3 g2 3 (nfc 30 B)):=HB3;obtain⟨i0,hi,hz0,hz1,hz2⟩:=info_parts Y9;have hi':Tryz.prog.info? 3=some i0:=hi;have hO0:=World.ownsRow_made (base:=w3.heap.size) (e:=3) (size:=1) w3 #[] 0 (Qa _) (Nat.zero_le _) rfl;have HO0:Hid ((w3.alloc (.cells #[] 3)).drew.ownsRow w3.heap.size 3 1 (.slice (some ⟨w3.heap.size,0,none⟩) 0 0) 0 []):=hO0;have HBa:=Qf ((Below.refl w3.heap.size w3).alloc (Qa _) (.cells #[] 3)).drew;have HrA2:=Qf (Yc4 (HrA.out.below HBa.out));have hg2l:g2<w3.heap.size:=HB3.out.lt;have Hg2l:=Qf hg2l
 have HLL:Hid (Yt NL fA++Yt ND fB=Yt LL.length (ln LL)):=by
  show _=_;rw[YiO,Ybn,Ybn,<-HfA.out,<-HfB.out,<-List.map_append];exact congrArg _ hLn.out
 have CS2:Hid (∀(g cap:Nat) (W:World),W.ownsRow w3.heap.size 3 1 (.slice (some ⟨g,0,none⟩) (0+NL+ND) cap) (0+NL+ND) (Yt NL fA++Yt ND fB)->Calls Tryz.prog 92 #[.slice (some ⟨g,0,none⟩) (NL+ND) cap] W fun e w'=>∃v,e=.returned v/\OwnP 173 w' W.heap.size v T/\Below W.heap.size W w'):=by
  intro g cap W ho;rw[Nat.zero_add] at ho;rw[HLL.out,<-HLl.out] at ho;have hh:=CS.out (some ⟨g,0,none⟩) cap W (IRow.ofOwn ho);rw[HLl.out] at hh;exact hh
 have hNLp:0<NL:=by omega
 have hmx1:0+NL<=maxLen:=by unfold maxLen;omega
 have hmx2:(0+NL)*8<=140737488355328:=by omega
 have hmx3:0+NL+ND<=maxLen:=by unfold maxLen;omega
 have hmx4:(0+NL+ND)*8<=140737488355328:=by omega
 have hNDp:0<ND:=by omega
 have hNL1:(NL:Int)<=286:=by omega
 have hNL2:(0:Int)<=(NL:Int):=by omega
 have hND1:(ND:Int)<=30:=by omega
 have hND2:(0:Int)<=(ND:Int):=by omega
 have hNL5:NL<=286:=hNL.2;have hND5:ND<=30:=hND.2;clear hO0 hi hg2l;go_upto_region 8 with fail
 go_cut [12] (fun t_ wx=>∃(tb tc:Nat),t_=.slice (some ⟨tb,0,none⟩) T.length tc/\Hid (StB wx tb T)/\Hid (Below w3.heap.size w3 wx))
 case first=>
  go_region_held3 (fun _=>True) (trivial)
   (first
    |(go_at_call 92;refine(CS2.out gb cb wb HOb.out).mono ?_;rintro e wc ⟨vt,rfl,hot,hbt⟩;obtain⟨tb,tc,rfl,hrt⟩:=Yl6 hot hT1;have HRT:=Qf hrt;have HBd:=Qf (HBc.out.trans (hbt.mono HBc.out.size));clear hot hbt hrt)
    |(refine step_append_lies (w3.alloc (.cells #[] 3)).drew rfl (.tmp 73) (.tmp 76) 113 rfl w3.heap.size 3 i0 (.int .i64 0) 1 8 Tryz.underlying113 hi' hz0 hz1 hz2 rfl (by decide) (.slice (some ⟨w3.heap.size,0,none⟩) 0 0) 0 [] rfl HO0.out ⟨g1,0,none⟩ NL 286 (Yt NL fA) rfl (by rw[YV,Nat.mul_one]) HrA2.out (Jl _ _) hNLp hmx1 hmx2 HBa.out.size _ rfl ?_;intro ga ca wa hoa hga _ _;rw[List.nil_append] at hoa;have HOa:=Qf hoa;have HGa:=Qf hga;have HBb:=Qf (HBa.out.trans (Yb HO0.out hga HBa.out.size));clear hoa hga)
    |(refine step_append_lies wa rfl (.tmp 77) (.tmp 80) 113 rfl w3.heap.size 3 i0 (.int .i64 0) 1 8 Tryz.underlying113 hi' hz0 hz1 hz2 rfl (by decide) (.slice (some ⟨ga,0,none⟩) (0+NL) ca) (0+NL) (Yt NL fA) rfl HOa.out ⟨g2,0,none⟩ ND 30 (Yt ND fB) rfl (by rw[YV,Nat.mul_one]) (Yc4 (by rw[<-HfB.out];exact Yao (HB3.out.below HBb.out Hg2l.out) ND hND5)) (Jl _ _) hNDp hmx3 hmx4 HBb.out.size _ rfl ?_;intro gb cb wb hob hgb _ _;have HOb:=Qf hob;have HBc:=Qf (HBb.out.trans (Yb HOa.out hgb HBb.out.size));clear hob hgb))
  all_goals (go_wp2_with fail;go_meet;exact⟨tb,tc,rfl,HRT,HBd⟩)
 case rest=>
 obtain⟨tb,tc,rfl,HRT,HBd⟩:=hcut;have hmk:∀W,(Instr.makeSlice 113 (.int .i64 19) (.int .i64 19)).run Tryz.prog W=.ok (.slice (some ⟨W.heap.size,0,none⟩) 19 19) (W.alloc (.cells (Yg 19 (fun _=>.int .i64 0)) 3)):=fun W=>UR 19 (by decide) W;obtain⟨f9,Hf9⟩:=Qi ((Yg 19 (fun _=>Value.int .i64 0)));rw[Hf9.out] at hmk;have HP4:=Qf (HP3.out.below HBd.out);have HA4:=Qf (HA3.out.below HBd.out HA3.out.lt);have HB4:=Qf (HB3.out.below HBd.out HB3.out.lt);have HK4:=Qf (HK3.out.trans (KeepT.below HBd.out));obtain⟨TN,HTN⟩:=Qi (T.length);rw[HTN.out] at hT316 ⊢;have hU:=Blk.new wc 3 f9;have HBe:=Qf ((Below.refl wc.heap.size wc).alloc (Qa _) (.cells f9 3));obtain⟨U,HU⟩:=Qi (wc.heap.size);have hUw:wc.heap.size<=U:=by rw[HU.out];exact Qa _
 have HU0:Hid (Blk (wc.alloc (.cells f9 3)) U 3 (Yg 19 (cntC ((T.take 0).map fun t=>t.sym.toNat)))):=by
  show Blk _ _ _ _
  have e:Yg 19 (cntC ((T.take 0).map fun t=>t.sym.toNat))=f9:=by
   rw[<-Hf9.out]
   exact Ys _ _ _ fun i _=>by unfold cntC;rw[List.take_zero];rfl
  rw[e,<-HU.out];exact hU
 clear hU Hf9 HrA HrB HO0 HBa HLL CS2 CS hi' hz0 hz1 hz2 hNLp hmx1 hmx2 hmx3 hmx4 hNDp HrA2 Hg2l HP3 HA3 HB3 HK3 HBd;go_wp2_with fail;rw[HU.out];obtain⟨w5,HW5⟩:=Qi (wc.alloc (.cells f9 3));rw[HW5.out] at HU0 HBe ⊢;clear HW5 hmk
 go_loopw [86] (fun j_ wr=>∃j:Nat,j<=TN/\j_=.int .i64 (j:Int)/\Hid (Blk wr U 3 (Yg 19 (cntC ((T.take j).map fun t=>t.sym.toNat))))/\Hid (Below wc.heap.size wc wr)) (fun j _=>TN-(intOf j).toNat)
 case atStart=>exact⟨0,Nat.zero_le _,rfl,HU0,HBe⟩
 clear HU0 HBe;obtain⟨j,hj,rfl,HU1,HB1⟩:=hrel;by_cases hlt:j<TN
 . obtain⟨dj,djb⟩:=Qj (show j<TN by omega)
   have hlI:(j:Int)<(TN:Int):=by omega
   have hjT:j<T.length:=by rw[HTN.out];exact hlt
   obtain⟨c0,c1⟩:=(HRT.out.below HB1.out).get j hjT;have htj:sp T j=T[j]:=by unfold sp;rw[List.getD_eq_getElem?_getD,List.getElem?_eq_getElem hjT];rfl
   have hrg:=HTr.out (sp T j) (by rw[htj];exact List.getElem_mem _)
   have htk:(T.take (j+1)).map (fun t=>t.sym.toNat)=(T.take j).map (fun t=>t.sym.toNat)++[(sp T j).sym.toNat]:=by
    rw[List.take_succ_eq_append_getElem hjT,List.map_append,htj];rfl
   obtain⟨⟨sy,mo⟩,Hsp⟩:∃R,Hid (sp T j=R):=⟨_,Qf (Eq.refl _)⟩;rw[Hsp.out] at c0 c1 hrg htk;dsimp only at c0 c1 hrg htk;obtain⟨y,rfl⟩:∃y:Nat,sy=(y:Int):=⟨sy.toNat,by omega⟩;have hy:y<19:=by omega
   rw[Int.toNat_natCast] at htk;obtain⟨LJ,HLJ⟩:=Qi ((T.take j).map (fun t=>t.sym.toNat));have hLJ:LJ.length<=316:=by rw[<-HLJ.out,List.length_map,List.length_take];omega
   rw[HLJ.out] at HU1 htk;have hBA:=Blk.new wr 173 #[.int .i64 (y:Int),.int .i64 mo];have hal:=(Below.refl wr.heap.size wr).alloc (Qa _) (.cells #[.int .i64 (y:Int),.int .i64 mo] 173);have HU2:=Qf (HU1.out.alloc (.cells #[.int .i64 (y:Int),.int .i64 mo] 173));have HB2:=Qf (HB1.out.trans (hal.mono HB1.out.size));have ht0:(wr.alloc (.cells #[.int .i64 (y:Int),.int .i64 mo] 173)).cell? ⟨wr.heap.size,0,none⟩=some (.int .i64 (y:Int)):=hBA.cell 0;have Htk:=Qf htk;have hc1:(wr.alloc (.cells #[.int .i64 (y:Int),.int .i64 mo] 173)).cell? ⟨U,y,none⟩=some (cntC LJ y):=(Blk.cell HU2.out y).trans (Yp _ _ _ hy);have hf1:=Blk.frozen HU2.out y;have hset1:=X0 19 LJ y;unfold cntC at hc1;obtain⟨k1,Hk1⟩:=Qi (LJ.count y);have hkl1:k1<=316:=by rw[<-Hk1.out];exact Qe List.count_le_length hLJ
   rw[Hk1.out] at hc1 hset1;obtain⟨kk1,Hkk1⟩:=Qi (k1+1);have hkv1:=Hkk1.out;have wk1:IntKind.i64.wrap ((k1:Int)+1)=(kk1:Int):=by rw[IntKind.wrap_i64];omega
   rw[hkv1] at hset1;have hyI1:(y:Int)<19:=by omega
   have HU3:Hid (∀m,Blk (((wr.alloc (.cells #[.int .i64 (y:Int),.int .i64 mo] 173)).setCell ⟨U,y,none⟩ (.int .i64 (kk1:Int))).drewN m) U 3 (Yg 19 (cntC ((T.take (j+1)).map fun t=>t.sym.toNat)))):=fun m=>by
    rw[Htk.out,<-hset1];exact Blk.set_ HU2.out y _
   have HB3':Hid (∀m,Below wc.heap.size wc (((wr.alloc (.cells #[.int .i64 (y:Int),.int .i64 mo] 173)).setCell ⟨U,y,none⟩ (.int .i64 (kk1:Int))).drewN m)):=fun m=>Yh (HB2.out.setCell hUw _) m;clear hset1 hkv1 HU2 HB2 htk hrg htj hBA hal HU1 HB1 hLJ;go_wp2_with fail;go_roundw
   case rel=>exact⟨j+1,by omega,by go_num,HU3.out 0,HB3'.out 0⟩
   simp[intOf];omega
 obtain rfl:j=TN:=by omega
 obtain⟨dj,djb⟩:=Ql (show j<=j by omega);have hUS:(T.take j).map (fun t=>t.sym.toNat)=US:=by rw[<-HTN.out,List.take_length];exact hUs.out
 rw[hUS] at HU1;have HP5:=Qf (HP4.out.below HB1.out);have HA5:=Qf (HA4.out.below HB1.out HA4.out.lt);have HB5:=Qf (HB4.out.below HB1.out HB4.out.lt);have HK5:=Qf (HK4.out.trans (KeepT.below HB1.out));have HRT5:=Qf (HRT.out.below HB1.out);have CLc:=Qf (CL3.out wr U HU1.out);clear hUS HU1 HB1 HP4 HA4 HB4 HK4 HRT CL3;go_wp2_with fail;refine CLc.out.mono ?_;rintro e w6 ⟨g3,rfl,-,hq1,hb6⟩;have HP6:=Qf (HP5.out.below hb6);have HA6:=Qf (HA5.out.below hb6 HA5.out.lt);have HB6:=Qf (HB5.out.below hb6 HB5.out.lt);have HK6:=Qf (HK5.out.trans (KeepT.below hb6));have HRT6:=Qf (HRT5.out.below hb6);have HF6:=Qf hq1;clear hq1 hb6 HP5 HA5 HB5 HK5 HRT5 CLc;go_wp2_with fail;refine(CO.out _).mono ?_;rintro e w7 ⟨rfl,hq1,hb7⟩;have HP7:=Qf (HP6.out.below hb7);have HA7:=Qf (HA6.out.below hb7 HA6.out.lt);have HB7:=Qf (HB6.out.below hb7 HB6.out.lt);have HK7':=Qf (HK6.out.trans (KeepT.below hb7));have HRT7:=Qf (HRT6.out.below hb7);have HF7:=Qf (HF6.out.below hb7 HF6.out.lt);obtain⟨go,Hgo⟩:=Qi (w6.heap.size);rw[Hgo.out] at hq1 ⊢
 have HO7:Hid (Blk w7 go 3 (nfc 19 (fun i=>ordL.getD i 0))):=by
  show Blk _ _ _ _;exact hq1
 clear hq1 hb7 HP6 HA6 HB6 HK6 HRT6 HF6 CO Hgo;obtain⟨KO,HKO⟩:=Qi ((fun i=>K (ordL.getD i 0)));rw[HKO.out] at hTK
 go_upto_block 6 with fail
 go_cut [19] (fun nl_ wx=>nl_=.int .i64 (NC:Int)/\w7=wx)
 case first=>
  go_wp2_with fail
  go_loop [19] (fun nl_=>∃n:Nat,4<=n/\n<=19/\nl_=.int .i64 (n:Int)/\Hid (XG KO 4 n=NC)) (fun nl_=>(intOf nl_).toNat)
  case atStart=>exact⟨19,by decide,Qa _,rfl,hTK⟩
  obtain⟨n,hn1,hn2,rfl,HT⟩:=hrel;by_cases h1:4<n
  . obtain⟨q,Hq⟩:∃q,Hid (n=q+1):=⟨n-1,by show _=_;omega⟩
    have hq:q<19:=by have:=Hq.out;omega
    have hqI:(q:Int)<19:=by omega
    have hlow:4<=q:=by have:=Hq.out;omega
    obtain⟨o,Ho⟩:=Qi (ordL.getD q 0);have ho:o<19:=(by rw[<-Ho.out];exact Yia q hq);have hoI:(o:Int)<19:=(by omega);have c0:w7.cell? ⟨go,q,none⟩=some (.int .i64 (o:Int)):=(by rw[<-Ho.out];exact(Blk.cell HO7.out q).trans (Ybf _ _ _ hq));have c1:w7.cell? ⟨g3,o,none⟩=some (.int .i64 ((K o:Nat):Int)):=(Blk.cell HF7.out o).trans (Ybf _ _ _ ho)
    have v1:IntKind.i64.wrap ((n:Int)-1)=(q:Int):=by rw[IntKind.wrap_i64];have:=Hq.out;omega
    have v2:(n:Int)-1=(q:Int):=by have:=Hq.out;omega
    obtain⟨x,Hx⟩:=Qi (K o)
    have HxO:Hid (KO q=x):=by show _=_;rw[<-HKO.out,<-Hx.out,<-Ho.out]
    rw[Hx.out] at c1;have d1:decide ((4:Int)<(n:Int))=true:=Qg (by omega);have d1b:decide (4<n)=true:=Qg (by omega);by_cases h0:x=0
    . have d2:((x:Int)==0)=true:=by simp;omega
      have d2b:(x==0)=true:=by simp;omega
      have HT2:Hid (XG KO 4 q=NC):=by
       show _=_;have h3:=HT.out;rw[Hq.out,Ydz _ _ _ (by omega) (by rw[HxO.out];exact h0)] at h3;exact h3
      clear h0;go_wp2_with fail
      go_round
      case rel=>exact⟨q,hlow,by omega,rfl,HT2⟩
      simp[intOf];omega
    have d2:((x:Int)==0)=false:=(by simp;omega);have d2b:(x==0)=false:=by simp;omega
    have hN:Hid (n=NC):=by
     show _=_;rw[<-HT.out];exact(Ka _ _ _ (fun h=>h0 (by rw[<-HxO.out];have h4:=h.2;rw[Hq.out] at h4;exact h4))).symm
    clear h0;go_wp2_with fail;go_meet;exact⟨by rw[hN.out],rfl⟩
  have d1:decide ((4:Int)<(n:Int))=false:=Qh (by omega);have d1b:decide (4<n)=false:=Qh (by omega)
  have hN:Hid (n=NC):=by
   show _=_;rw[<-HT.out];exact(Ka _ _ _ (fun h=>h1 h.1)).symm
  go_wp2_with fail;go_meet;exact⟨by rw[hN.out],rfl⟩
 case rest=>
 obtain⟨rfl,rfl⟩:=hcut;obtain⟨x1,Hx1⟩:=Qi (NL-257)
 have x1a:IntKind.i64.wrap ((NL:Int)-257)=(x1:Int):=by rw[IntKind.wrap_i64];have:=Hx1.out;omega
 have x1b:(NL:Int)-257=(x1:Int):=by have:=Hx1.out;omega
 have x1l:x1<4294967296:=by have:=Hx1.out;omega
 have x1c:IntKind.u32.wrap (x1:Int)=(x1:Int):=by rw[IntKind.wrap_u32];omega
 have x1d:(x1:Int)%4294967296=(x1:Int):=by omega
 obtain⟨x2,Hx2⟩:=Qi (ND-1)
 have x2a:IntKind.i64.wrap ((ND:Int)-1)=(x2:Int):=by rw[IntKind.wrap_i64];have:=Hx2.out;omega
 have x2b:(ND:Int)-1=(x2:Int):=by have:=Hx2.out;omega
 have x2l:x2<4294967296:=by have:=Hx2.out;omega
 have x2c:IntKind.u32.wrap (x2:Int)=(x2:Int):=by rw[IntKind.wrap_u32];omega
 have x2d:(x2:Int)%4294967296=(x2:Int):=by omega
 obtain⟨x3,Hx3⟩:=Qi (NC-4)
 have x3a:IntKind.i64.wrap ((NC:Int)-4)=(x3:Int):=by rw[IntKind.wrap_i64];have:=Hx3.out;omega
 have x3b:(NC:Int)-4=(x3:Int):=by have:=Hx3.out;omega
 have x3l:x3<4294967296:=by have:=Hx3.out;omega
 have x3c:IntKind.u32.wrap (x3:Int)=(x3:Int):=by rw[IntKind.wrap_u32];omega
 have x3d:(x3:Int)%4294967296=(x3:Int):=by omega
 have HKs:Hid (KeepT w7 w7):=fun _ _ _ _ _ x=>x;go_wp2_with fail;refine(CP5.out x1 _ l _ x1l (Qe HcE.out (by decide)) HP7.out).mono ?_;rintro e w8 ⟨rfl,v8,hp,hk⟩;obtain⟨l1,Hl1⟩:=Qi (l++[(x1,5)])
 have Hel1:Hid (encN l1=encN l+5):=by show _=_;rw[<-Hl1.out,Vq]
 rw[Hl1.out] at hp;have HP8:=Qf hp;have HKs8:=Qf (HKs.out.trans hk);clear hp hk HP7 HKs;go_wp2_with fail;refine(CP5.out x2 _ l1 _ x2l (by have:=Hel1.out;have:=HcE.out;omega) HP8.out).mono ?_;rintro e w9 ⟨rfl,v9,hp,hk⟩;obtain⟨l2,Hl2⟩:=Qi (l1++[(x2,5)])
 have Hel2:Hid (encN l2=encN l1+5):=by show _=_;rw[<-Hl2.out,Vq]
 rw[Hl2.out] at hp;have HP9:=Qf hp;have HKs9:=Qf (HKs8.out.trans hk);clear hp hk HP8 HKs8;go_wp2_with fail;refine(CP4.out x3 _ l2 _ x3l (by have:=Hel1.out;have:=Hel2.out;have:=HcE.out;omega) HP9.out).mono ?_;rintro e w10 ⟨rfl,v10,hp,hk⟩;obtain⟨l3,Hl3⟩:=Qi (l2++[(x3,4)])
 have Hel3:Hid (encN l3=encN l2+4):=by show _=_;rw[<-Hl3.out,Vq]
 rw[Hl3.out] at hp;have HP10:=Qf hp;have HKs10:=Qf (HKs9.out.trans hk);clear hp hk HP9 HKs9
 have hel3:encN l3<=1014:=by have:=Hel1.out;have:=Hel2.out;have:=Hel3.out;have:=HcE.out;omega
 have HL30:Hid (l3=l3++((ordL.take 0).map fun s=>(K s,3))):=by show _=_;rw[List.take_zero,List.map_nil,List.append_nil]
 have hNC19:NC<=19:=hNC.2;have hNC1:(NC:Int)<=19:=by omega
 have hNC2:(0:Int)<=(NC:Int):=by omega
 have HE30:Hid (encN l3<=encN l3+3*0):=Qf (Qa _);clear x1a x1b x1c x1d x2a x2b x2c x2d x3a x3b x3c x3d;go_wp2_with fail
 go_loopw [138] (fun i_ wr=>∃(i:Nat) (v:Value) (lx:List (Nat × Nat)),i<=NC/\i_=.int .i64 (i:Int)/\Hid (PK w0 wr P v lx)/\Hid (lx=l3++((ordL.take i).map fun s=>(K s,3)))/\Hid (encN lx<=encN l3+3*i)/\Hid (KeepT w7 wr)) (fun i _=>NC-(intOf i).toNat)
 case atStart=>exact⟨0,v10,l3,Nat.zero_le _,rfl,HP10,HL30,HE30,HKs10⟩
 clear HP10 HL30 HE30 HKs10;obtain⟨i,vi,lx,hi,rfl,HPi,HLi,HEi,HKi⟩:=hrel;by_cases hlt2:i<NC
 . obtain⟨di,dib⟩:=Qj (show i<NC by omega)
   have hiI:(i:Int)<(NC:Int):=by omega
   have hi19:i<19:=by omega
   obtain⟨o,Ho⟩:=Qi (ordL.getD i 0);have ho:o<19:=by rw[<-Ho.out];exact Yia i hi19
   have hoI:(o:Int)<19:=by omega
   have c0:wr.cell? ⟨go,i,none⟩=some (.int .i64 (o:Int)):=by rw[<-Ho.out];exact(Blk.cell (HKi.out go 3 _ (by decide) (by decide) HO7.out) i).trans (Ybf _ _ _ hi19)
   have c1:wr.cell? ⟨g3,o,none⟩=some (.int .i64 ((K o:Nat):Int)):=(Blk.cell (HKi.out g3 3 _ (by decide) (by decide) HF7.out) o).trans (Ybf _ _ _ ho);have hKo:=HK7.out o
   have htk:(ordL.take (i+1)).map (fun s=>(K s,3))=(ordL.take i).map (fun s=>(K s,3))++[(K o,3)]:=by
    rw[List.take_succ_eq_append_getElem (show i<ordL.length from hi19),List.map_append,<-Ho.out,List.getD_eq_getElem?_getD,List.getElem?_eq_getElem (show i<ordL.length from hi19)];rfl
   obtain⟨x,Hx⟩:=Qi (K o);rw[Hx.out] at c1 hKo htk;have xc:IntKind.u32.wrap (x:Int)=(x:Int):=by rw[IntKind.wrap_u32];omega
   have xd:(x:Int)%4294967296=(x:Int):=by omega
   have hx32:x<4294967296:=by omega
   have CPx:=Qf (CP3.out x vi lx wr hx32 (by have:=HEi.out;omega) HPi.out);obtain⟨ly,Hly⟩:=Qi (lx++[(x,3)])
   have HLy:Hid (ly=l3++((ordL.take (i+1)).map fun s=>(K s,3))):=by show _=_;rw[htk,<-Hly.out,HLi.out,List.append_assoc]
   have HEy:Hid (encN ly<=encN l3+3*(i+1)):=by show _<=_;rw[<-Hly.out,Vq];have:=HEi.out;omega
   rw[Hly.out] at CPx;clear htk HPi hKo;go_wp2_with fail;refine CPx.out.mono ?_;rintro e w11 ⟨rfl,v11,hp,hk⟩;have HP11:=Qf hp;have HK11:=Qf (HKi.out.trans hk);clear hp hk;go_wp2_with fail;go_roundw
   case rel=>exact⟨i+1,v11,ly,by omega,by go_num,HP11,HLy,HEy,HK11⟩
   simp[intOf];omega
 obtain rfl:i=NC:=by omega
 obtain⟨di,dib⟩:=Ql (show i<=i by omega);have HFw:=Qf (HKi.out g3 3 _ (by decide) (by decide) HF7.out);have HAw:=Qf (HKi.out g1 3 _ (by decide) (by decide) HA7.out);have HBw:=Qf (HKi.out g2 3 _ (by decide) (by decide) HB7.out);have HTw:=Qf (HRT7.out.keep HKi.out);have HKw:=Qf (HK7'.out.trans HKi.out);have CKx:=Qf (CK.out wr g3 HFw.out);clear HF7 HA7 HB7 HRT7 HK7' HKi CK HO7;go_wp2_with fail;refine CKx.out.mono ?_;rintro e w12 ⟨gk,rfl,hq1,hb12⟩;have HP12:=Qf (HPi.out.below hb12);have HA12:=Qf (HAw.out.below hb12 HAw.out.lt);have HB12:=Qf (HBw.out.below hb12 HBw.out.lt);have HT12:=Qf (HTw.out.below hb12);have HK12:=Qf (HKw.out.trans (KeepT.below hb12));have HC12:=Qf hq1
 have hEx:encN lx<=1100:=by have:=HEi.out;omega
 have HEx:=Qf hEx
 have HL50:Hid (lx=lx++((T.take 0).flatMap (VW K))):=by show _=_;rw[List.take_zero,List.flatMap_nil,List.append_nil]
 have HE50:Hid (encN lx<=encN lx+14*0):=Qf (Qa _);have HKs12:Hid (KeepT w12 w12):=fun _ _ _ _ _ x=>x;clear hq1 hb12 HPi HAw HBw HTw HKw CKx HFw hEx;go_wp2_with fail
 go_loopw [157] (fun j_ wr=>∃(k:Nat) (v:Value) (ly:List (Nat × Nat)),k<=j/\j_=.int .i64 (k:Int)/\Hid (PK w0 wr P v ly)/\Hid (ly=lx++((T.take k).flatMap (VW K)))/\Hid (encN ly<=encN lx+14*k)/\Hid (KeepT w12 wr)) (fun k _=>j-(intOf k).toNat)
 case atStart=>exact⟨0,vi,lx,Nat.zero_le _,rfl,HP12,HL50,HE50,HKs12⟩
 clear HP12 HL50 HE50 HKs12;obtain⟨k,vk,ly,hk,rfl,HPk,HLk,HEk,HKk⟩:=hrel;by_cases hlt3:k<j
 . obtain⟨dk,dkb⟩:=Qj (show k<j by omega)
   have hkI:(k:Int)<(j:Int):=by omega
   have hkT:k<T.length:=by rw[HTN.out];exact hlt3
   obtain⟨c0,c1⟩:=(HT12.out.keep HKk.out).get k hkT;have htj:sp T k=T[k]:=by unfold sp;rw[List.getD_eq_getElem?_getD,List.getElem?_eq_getElem hkT];rfl
   have hrg:=HTr.out (sp T k) (by rw[htj];exact List.getElem_mem _)
   have htk:(T.take (k+1)).flatMap (VW K)=(T.take k).flatMap (VW K)++VW K (sp T k):=by
    rw[List.take_succ_eq_append_getElem hkT,List.flatMap_append,htj];simp
   have hsl:=Ycx K HK7.out (sp T k);obtain⟨⟨sy,mo⟩,Hsp⟩:∃R,Hid (sp T k=R):=⟨_,Qf (Eq.refl _)⟩;rw[Hsp.out] at c0 c1 hrg htk hsl;dsimp only at c0 c1 hrg;obtain⟨y,rfl⟩:∃y:Nat,sy=(y:Int):=⟨sy.toNat,by omega⟩;obtain⟨x,rfl⟩:∃x:Nat,mo=(x:Int):=⟨mo.toNat,by omega⟩;have hy:y<19:=by omega
   have hx32:x<4294967296:=by omega
   have hse:VW K ⟨(y:Int),(x:Int)⟩=symE K 19 y::(if (y:Int)=16 then [(x,2)] else if (y:Int)=17 then [(x,3)] else if (y:Int)=18 then [(x,7)] else []):=rfl;rw[hse] at htk hsl;have Htk:=Qf htk;have Hsl:=Qf hsl;have hBA:=Blk.new wr 173 #[.int .i64 (y:Int),.int .i64 (x:Int)];have hal:=(Below.refl wr.heap.size wr).alloc (Qa _) (.cells #[.int .i64 (y:Int),.int .i64 (x:Int)] 173);have HPa:=Qf (HPk.out.below hal);have HKa:=Qf (HKk.out.trans (KeepT.below hal));have HBA:=Qf hBA;have ht0:(wr.alloc (.cells #[.int .i64 (y:Int),.int .i64 (x:Int)] 173)).cell? ⟨wr.heap.size,0,none⟩=some (.int .i64 (y:Int)):=hBA.cell 0;have xc:IntKind.u32.wrap (x:Int)=(x:Int):=by rw[IntKind.wrap_u32];omega
   have xd:(x:Int)%4294967296=(x:Int):=by omega
   obtain⟨Bs,HBs⟩:=Qi (wr.heap.size);clear htk hsl hse htj hrg hBA hal HPk HKk;go_wp2_with fail;obtain⟨W9,HW9⟩:=Qi ((wr.alloc (.cells #[.int .i64 (y:Int),.int .i64 (x:Int)] 173)));rw[HW9.out] at HPa HKa HBA ht0 ⊢;rw[HBs.out] at HBA ht0 ⊢;clear HW9 HBs ht0;refine(CPu.out gk y vk ly W9 hy (by have:=HEk.out;have:=HEx.out;omega) HPa.out (HKa.out gk 163 _ (by decide) (by decide) HC12.out)).mono ?_;rintro e w13 ⟨rfl,v13,hp,hkt⟩;obtain⟨lz,Hlz⟩:=Qi (ly++[symE K 19 y]);rw[Hlz.out] at hp;have HP13:=Qf hp;have HK13:=Qf (HKa.out.trans hkt);have hB13:=hkt Bs 173 _ (by decide) (by decide) HBA.out;have hs0:w13.cell? ⟨Bs,0,none⟩=some (.int .i64 (y:Int)):=hB13.cell 0;have hs1:w13.cell? ⟨Bs,1,none⟩=some (.int .i64 (x:Int)):=hB13.cell 1
   have hlz:encN lz<=900000000:=by rw[<-Hlz.out,Vq];have:=HEk.out;have:=HEx.out;have:=HK7.out y;show encN ly+K y<=_;omega
   have Hlzl:=Qf hlz;have CPa:=Qf (CP2.out x v13 lz w13 hx32 hlz HP13.out);have CPb:=Qf (CP3.out x v13 lz w13 hx32 hlz HP13.out);have CPc:=Qf (CP7.out x v13 lz w13 hx32 hlz HP13.out);clear hp hkt hB13 hlz HPa HKa HBA;by_cases h16:y=16
   . have H16:=Qf h16
     have d1:((y:Int)==16)=true:=by simp;omega
     have HLf:Hid (lz++[(x,2)]=lx++((T.take (k+1)).flatMap (VW K))):=by
      show _=_;rw[Htk.out,if_pos (by omega),<-Hlz.out,HLk.out];simp
     have HEf:Hid (encN (lz++[(x,2)])<=encN lx+14*(k+1)):=by
      show _<=_;have h1:=Hsl.out;rw[if_pos (by omega)] at h1;have h2:=HEk.out;have e:lz++[(x,2)]=ly++[symE K 19 y,(x,2)]:=(by rw[<-Hlz.out];simp);rw[e,Y0];omega
     clear h16 CPb CPc;go_wp2_with fail;refine CPa.out.mono ?_;rintro e w14 ⟨rfl,v14,hp,hkt⟩;have HP14:=Qf hp;have HK14:=Qf (HK13.out.trans hkt);clear hp hkt;go_wp2_with fail;go_roundw
     case rel=>exact⟨k+1,v14,_,by omega,by go_num,HP14,HLf,HEf,HK14⟩
     simp[intOf];omega
   by_cases h17:y=17
   . have H17:=Qf h17
     have d1:((y:Int)==16)=false:=(by simp;omega);have d2:((y:Int)==17)=true:=by simp;omega
     have HLf:Hid (lz++[(x,3)]=lx++((T.take (k+1)).flatMap (VW K))):=by
      show _=_;rw[Htk.out,if_neg (by omega),if_pos (by omega),<-Hlz.out,HLk.out];simp
     have HEf:Hid (encN (lz++[(x,3)])<=encN lx+14*(k+1)):=by
      show _<=_;have h1:=Hsl.out;rw[if_neg (by omega),if_pos (by omega)] at h1;have h2:=HEk.out;have e:lz++[(x,3)]=ly++[symE K 19 y,(x,3)]:=(by rw[<-Hlz.out];simp);rw[e,Y0];omega
     clear h16 h17 CPa CPc;go_wp2_with fail;refine CPb.out.mono ?_;rintro e w14 ⟨rfl,v14,hp,hkt⟩;have HP14:=Qf hp;have HK14:=Qf (HK13.out.trans hkt);clear hp hkt;go_wp2_with fail;go_roundw
     case rel=>exact⟨k+1,v14,_,by omega,by go_num,HP14,HLf,HEf,HK14⟩
     simp[intOf];omega
   by_cases h18:y=18
   . have H18:=Qf h18
     have d1:((y:Int)==16)=false:=(by simp;omega);have d2:((y:Int)==17)=false:=(by simp;omega);have d3:((y:Int)==18)=true:=by simp;omega
     have HLf:Hid (lz++[(x,7)]=lx++((T.take (k+1)).flatMap (VW K))):=by
      show _=_;rw[Htk.out,if_neg (by omega),if_neg (by omega),if_pos (by omega),<-Hlz.out,HLk.out];simp
     have HEf:Hid (encN (lz++[(x,7)])<=encN lx+14*(k+1)):=by
      show _<=_;have h1:=Hsl.out;rw[if_neg (by omega),if_neg (by omega),if_pos (by omega)] at h1;have h2:=HEk.out;have e:lz++[(x,7)]=ly++[symE K 19 y,(x,7)]:=(by rw[<-Hlz.out];simp);rw[e,Y0];omega
     clear h16 h17 h18 CPa CPb;go_wp2_with fail;refine CPc.out.mono ?_;rintro e w14 ⟨rfl,v14,hp,hkt⟩;have HP14:=Qf hp;have HK14:=Qf (HK13.out.trans hkt);clear hp hkt;go_wp2_with fail;go_roundw
     case rel=>exact⟨k+1,v14,_,by omega,by go_num,HP14,HLf,HEf,HK14⟩
     simp[intOf];omega
   have d1:((y:Int)==16)=false:=by simp;omega
   have d2:((y:Int)==17)=false:=by simp;omega
   have d3:((y:Int)==18)=false:=by simp;omega
   have HLf:Hid (lz=lx++((T.take (k+1)).flatMap (VW K))):=by
    show _=_;rw[Htk.out,if_neg (by omega),if_neg (by omega),if_neg (by omega),<-Hlz.out,HLk.out];simp
   have HEf:Hid (encN lz<=encN lx+14*(k+1)):=by
    show _<=_;have h1:=Hsl.out;rw[if_neg (by omega),if_neg (by omega),if_neg (by omega)] at h1;have h2:=HEk.out;rw[<-Hlz.out,Y0];omega
   clear h16 h17 h18 CPa CPb CPc;go_wp2_with fail;go_roundw
   case rel=>exact⟨k+1,v13,lz,by omega,by go_num,HP13,HLf,HEf,HK13⟩
   simp[intOf];omega
 obtain rfl:k=j:=by omega
 obtain⟨dk,dkb⟩:=Ql (show k<=k by omega);have hall:T.take k=T:=List.take_of_length_le (by rw[HTN.out];exact Qa _);rw[hall] at HLk;have HAz:=Qf (HKk.out g1 3 _ (by decide) (by decide) HA12.out);have HBz:=Qf (HKk.out g2 3 _ (by decide) (by decide) HB12.out);have HKz:=Qf (HK12.out.trans HKk.out);have CAx:=Qf (CA.out wr g1 HAz.out);have hNL1:(NL:Int)<=286:=by omega
 have hND1:(ND:Int)<=30:=by omega
 clear hall HA12 HB12 HT12 HK12 HKk HC12 CA;go_wp2_with fail;refine CAx.out.mono ?_;rintro e w15 ⟨gx,rfl,hq1,hb15⟩;have HPx:=Qf (HPk.out.below hb15);have HBx:=Qf (HBz.out.below hb15 HBz.out.lt);have HKx:=Qf (HKz.out.trans (KeepT.below hb15));have HGx:=Qf hq1;have CBx:=Qf (CB.out w15 g2 HBx.out);clear hq1 hb15 HPk HAz HBz HKz CAx CB;go_wp2_with fail;refine CBx.out.mono ?_;rintro e w16 ⟨gy,rfl,hq1,hb16⟩;have HPy:=Qf (HPx.out.below hb16);have HKy:=Qf (HKx.out.trans (KeepT.below hb16));have HGx2:=Qf (HGx.out.below hb16 HGx.out.lt);have CBz:=Qf (CBody.out w16 vk ly gx gy (by have:=HEk.out;have:=HEx.out;omega) HPy.out HGx2.out hq1);clear hq1 hb16 HPx HBx HKx HGx HGx2 CBx CBody;go_wp2_with fail;refine CBz.out.mono ?_;rintro e w17 ⟨rfl,v17,hp,hkt⟩;have HP17:=Qf hp;have HK17:=Qf (HKy.out.trans hkt)
 have HRes:Hid (ly++VK A NL B ND S++[symE A NL 256]=l++(JN NL ND i K LL++(VK A NL B ND S++[symE A NL 256]))):=by
  show _=_;rw[HLk.out,HLi.out,<-Hl3.out,<-Hl2.out,<-Hl1.out,<-Hx1.out,<-Hx2.out,<-Hx3.out];unfold JN;rw[HTt.out];simp
 clear hp hkt HPy HKy CBz;go_wp2_with fail
 (try simp only[Exit.inBlock,Exit.then]);refine bodyPost_end (results_none rfl _ _ _) rfl ?_
 have hpf:=HP17.out;rw[HRes.out] at hpf;exact⟨rfl,v17,hpf,HK17.out⟩
end Go.Proofs.YthehocmfpoglgaaGreat
