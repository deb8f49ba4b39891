/- Texts joined: SInf Rop OwnF Few Shr Tld Wr RfcA Rfe Rff Rd Rrd KeepT FixR EncP PK Def1 Def2 TokW Def4. Conditions: each theorem says its own. -/
import Derived.StillTailTactics
import Derived.BigQuiet
import Derived.Deep.CutRange
import Derived.Deep.RegionHeld3
import Derived.Test.YthehocmfpoglgaaGreatSBlkJ
import Derived.Test.YthehocmfpoglgaaGreatJlflblb
import Derived.Test.YthehocmfpoglgaaGreatJfahffd
import Derived.Test.YthehocmfpoglgaaGreatJikjhbb
import Derived.Test.YthehocmfpoglgaaGreatJfbdmaf
import Derived.Test.YthehocmfpoglgaaGreatJddomja
namespace Go.Proofs.YthehocmfpoglgaaGreat
open Go.RowKit
set_option maxRecDepth 100000
theorem BSr.form {w0 wt:World} {BB:Nat} {v:Value} {l:List LBk} (h:BSr w0 BB v l wt):∃a cap,Hid (v=.slice a l.length cap)/\∀k (hk:k<l.length),∃G,a=some ⟨G,0,none⟩/\G<wt.heap.size/\
 wt.cell? ⟨G,k*3,none⟩=some (.int .i64 ((l[k]).b.kind:Int))/\wt.cell? ⟨G,k*3+1,none⟩=some (.string ⟨(l[k]).b.bytes.toArray⟩)/\wt.cell? ⟨G,k*3+2,none⟩=some (.slice (l[k]).a (l[k]).b.toks.length (l[k]).cap):=by
 have hlt:=World.ownsRow.lt h.own;have hc:=fun g hg=>World.ownsRow.cells h.own (g:=g) hg;rcases h.own.2 with⟨rfl,h0⟩|⟨G,cap,cur,rfl,_⟩
 . exact⟨none,0,by show _=_;rw[h0],fun k hk=>by omega⟩
 refine⟨_,_,Qf rfl,fun k hk=>⟨G,rfl,(hlt G rfl).2,?_⟩⟩;obtain⟨c0,c1,c2⟩:=Ybh l k hk
 have e0:∀j,(⟨G,0,none⟩:Addr).add j=⟨G,j,none⟩:=fun j=>by unfold Addr.add;split<;>simp_all
 refine⟨?_,?_,?_⟩
 . have:=hc G rfl (k*3) _ c0;rwa [e0] at this
 . have:=hc G rfl (k*3+1) _ c1;rwa [e0] at this
 have:=hc G rfl (k*3+2) _ c2;rwa [e0] at this
set_option maxHeartbeats 32000000 in
theorem YdO (s:ByteArray) (hs:s.size<=12500) (q most:Nat) (hq:q<=s.size) (hm:most<=65536) (u:ByteArray) (hu:s.extract q s.size=u) (w:World) :
 Calls Tryz.prog 36 #[.string s,.int .i64 (q:Int),.int .i64 (most:Int)] w fun r w'=>Below w.heap.size w w'/\
  (
   (∃e,e ≠ 0/\Kl u most=.error e/\r=.returned (.tuple #[.string ⟨#[]⟩,.int .i64 0,.int .i64 (e:Int)]))\/
   (∃bs p z,Kl u most=.ok (bs,sg u p z)/\p<=8*u.size/\r=.returned (.tuple #[.string ⟨(X5 [] bs).toArray⟩,.int .i64 (((p+7)/8:Nat):Int),.int .i64 0]))):=by
 have CB:=Qf (Ygb s hs q most hq hm);have hus:u.size<=12500:=by rw[<-hu,ByteArray.size_extract];omega
 rw[hu] at CB;have hRs:Kl u most=VJ most (8*u.size+1) (sg u 0 0) []:=rfl;rw[<-hRs] at CB
 have HRs:Hid (∀{bs:List Bk} {σ:Sg},Kl u most=.ok (bs,σ)->bs.length<=8*u.size+1/\Uq 0 bs/\X8 bs<=most/\(∀b ∈ bs,b.toks.length<=X8 bs)):=fun {bs σ} h=>by
  obtain⟨h1,h2,h3,_⟩:=Yb6 h;have h4:=KC _ (show VJ most (8*u.size+1) (sg u 0 0) []=.ok (bs,σ) from h);exact⟨by have e:(sg u 0 0).n=8*u.size-0:=rfl;rw[e] at h4;simp at h4;omega,h1,by omega,Ybw bs 0 h1⟩
 clear hRs hq;go_enter Tryz.func36,Tryz.ntmps36;go_wp2_with fail;refine(CB.out w).mono ?_;rintro r w1 ⟨hb1,⟨e,he,hr,rfl⟩|⟨l,p,z,v,BB,hr,hp,hz,rfl,hwB,hS⟩⟩
 . have Hb1:=Qf hb1
   have Hr:=Qf hr;have He:=Qf he;have de:((e:Int)==0)=false:=by simp;omega
   have de2:((e:Int)!=0)=true:=by simp;omega
   clear hb1 hr he CB HRs;go_wp2_with fail
   go_ret3
   exact⟨Hb1.out,.inl ⟨e,He.out,Hr.out,rfl⟩⟩
 have Hr:=Qf hr;obtain⟨hcl,hok,hbl,htl⟩:=HRs.out hr;rw[List.length_map] at hcl;obtain⟨va,vc,Hv,hget⟩:=hS.form;have hv:=Hv.out;subst hv;have Hget:=Qf hget;have Htk:=Qf hS.tk;have Htl:Hid (∀x ∈ l,x.b.toks.length<=100000):=fun x hx=>Qe (htl x.b (List.mem_map.2 ⟨x,hx,rfl⟩)) (by omega);obtain⟨R,HR⟩:=Qi (X5 [] (l.map LBk.b));have HRj:=HR;obtain⟨N,HN⟩:=Qi (l.length);rw[HN.out] at hcl ⊢;obtain⟨kp,Hkp⟩:=Qi ((p+7)/8);rw[Hkp.out];have HB0:=Qf (Below.refl w1.heap.size w1);have HB1:=Qf hb1;have Hok:=Qf hok;have hol0:([]:List UInt8).length+X8 ((l.map LBk.b).drop 0)<=100000:=by simp;omega
 have Hol0:=Qf hol0
 have HN1:Hid (N<=200000):=by show N<=_;omega
 clear hget hS Hv hok htl hb1 hr hcl hbl CB HRs hol0 hwB;go_wp2_with fail
 go_loopw [12,31] (fun vo k_ wr=>∃(k:Nat) (T:ByteArray),k<=N/\k_=.int .i64 (k:Int)/\vo=.string T/\Hid (T.data.toList.length+X8 ((l.map LBk.b).drop k)<=100000)/\Hid (X5 T.data.toList ((l.map LBk.b).drop k)=R)/\Hid (Uq T.data.toList.length ((l.map LBk.b).drop k))/\Hid (Below w1.heap.size w1 wr)) (fun _ i _=>N-(intOf i).toNat)
 case atStart=>exact⟨0,⟨#[]⟩,by omega,rfl,rfl,Hol0,HR,Hok,HB0⟩
 clear HB0 HR Hok Hol0;obtain⟨k,T,hk,rfl,rfl,Hol,HR,Hok,HB⟩:=hrel;have hkb:k<=200000:=Qe hk HN1.out;by_cases hlt:k<N
 . have hkl:k<l.length:=by rw[HN.out];exact hlt
   obtain⟨G,rfl,hG,c0,c1,c2⟩:=Hget.out k hkl;have hmem:=List.getElem_mem hkl;have hTk:=(Htk.out _ hmem).1;have hTl:=Htl.out _ hmem
   have hdrop:(l.map LBk.b).drop k=(l[k]).b::(l.map LBk.b).drop (k+1):=by
    rw[List.drop_eq_getElem_cons (by simpa using hkl)];simp
   obtain⟨x,Hx⟩:=Qi (l[k]);rw[Hx.out] at c0 c1 c2 hTk hTl hdrop;rw[hdrop] at Hol HR Hok;obtain⟨⟨kd,bl,S⟩,ta,tc⟩:=x;simp only at c0 c1 c2 hTk hTl;obtain⟨M,HM⟩:=Qi (S.length);rw[HM.out] at c2 hTl;have hTs:T.data.toList.length=T.size:=by simp
   have hol2:T.size+bl.length+Vh S+X8 ((l.map LBk.b).drop (k+1))<=100000:=by
    have h:=Hol.out;have e:X8 ((⟨kd,bl,S⟩:Bk)::(l.map LBk.b).drop (k+1))=(bl.length+Vh S)+X8 ((l.map LBk.b).drop (k+1)):=rfl;rw[e] at h;omega
   have HR2:Hid (X5 (UT (T.data.toList++bl) S) ((l.map LBk.b).drop (k+1))=R):=HR.out;have Hok1:Hid (Xk (T.data.toList.length+bl.length) S):=Hok.out.1;have Hok2:Hid (Uq (T.data.toList.length+(bl.length+Vh S)) ((l.map LBk.b).drop (k+1))):=Hok.out.2;obtain⟨rest,Hrest⟩:=Qi ((l.map LBk.b).drop (k+1));rw[Hrest.out] at hol2 HR2 Hok2;have d0:=(HB.out.cell (p:=⟨G,k*3,none⟩) hG).trans c0;have d1:=(HB.out.cell (p:=⟨G,k*3+1,none⟩) hG).trans c1;have d2:=(HB.out.cell (p:=⟨G,k*3+2,none⟩) hG).trans c2;have HTk:=Qf hTk;have dk:decide ((k:Int)<(N:Int))=true:=Qg (by omega);have hkI:(k:Int)<(N:Int):=by omega
   have hbz:(⟨bl.toArray⟩:ByteArray).size=bl.length:=by show bl.toArray.size=_;simp
   have hov:¬9223372036854775807<T.size+(⟨bl.toArray⟩:ByteArray).size:=by omega
   have hTB:(T++(⟨bl.toArray⟩:ByteArray)).data.toList=T.data.toList++bl:=U5 _ _;have hTBs:(T++(⟨bl.toArray⟩:ByteArray)).size=T.size+bl.length:=by rw[ByteArray.size_append,hbz]
   obtain⟨T1,HT1⟩:=Qi (T++(⟨bl.toArray⟩:ByteArray));obtain⟨BLs,HBLs⟩:=Qi ((⟨bl.toArray⟩:ByteArray));rw[HT1.out] at hTB hTBs;have HT1b:=HT1;rw[HBLs.out] at HT1b hov c1 d1;have htT:T++BLs=T1:=HT1b.out;have HTB:=Qf hTB;have hB4:=Blk.new wr 105 #[.int .i64 (kd:Int),.string BLs,.slice ta M tc];have HB4:=Qf (HB.out.alloc HB.out.size (.cells #[.int .i64 (kd:Int),.string BLs,.slice ta M tc] 105));have e0:(wr.alloc (.cells #[.int .i64 (kd:Int),.string BLs,.slice ta M tc] 105)).cell? ⟨wr.heap.size,1,none⟩=some (.string BLs):=hB4.cell 1;have e1:(wr.alloc (.cells #[.int .i64 (kd:Int),.string BLs,.slice ta M tc] 105)).cell? ⟨wr.heap.size,2,none⟩=some (.slice ta M tc):=hB4.cell 2;clear c0 c1 c2 hTk hdrop HR Hok Hx hmem hkl hB4 HB Hol hTs hbz hTB;go_wp2_with fail
   (try rw[htT])
   obtain⟨w4,HW4⟩:=Qi (wr.alloc (.cells #[.int .i64 (kd:Int),.string BLs,.slice ta M tc] 105));rw[HW4.out] at HB4 ⊢;clear e0 e1 d0 d1 d2 HW4 hov htT HT1 HT1b HBLs;obtain⟨Q,HQ⟩:=Qi (UT (T.data.toList++bl) S);have hQl:=KP S (T.data.toList++bl);have hT1l:T1.data.toList.length=T1.size:=by simp
   rw[<-HTB.out] at HQ;rw[<-HTB.out,HQ.out,hT1l] at hQl;rw[<-HTB.out,HQ.out] at HR2;have hTl2:T.data.toList.length=T.size:=by simp
   rw[hTl2] at Hok1 Hok2;have HT0:Hid (Xk T1.data.toList.length (S.drop 0)):=by show Xk _ _;rw[hT1l,hTBs];exact Hok1.out
   have HL0:Hid (T1.data.toList.length+Vh (S.drop 0)<=100000):=by show _<=_;rw[hT1l,List.drop_zero];omega
   have HQl:Hid (Q.length=T.size+bl.length+Vh S):=by show _=_;rw[hQl,hTBs]
   have HQ0:Hid (UT T1.data.toList (S.drop 0)=Q):=HQ;have hMb:M<=100000:=hTl;clear Hok1 HQ hQl hT1l hTl2
   go_loopw [12,42] (fun vo j_ wx=>∃(j:Nat) (U:ByteArray),j<=M/\j_=.int .i64 (j:Int)/\vo=.string U/\Hid (U.data.toList.length+Vh (S.drop j)<=100000)/\Hid (UT U.data.toList (S.drop j)=Q)/\Hid (Xk U.data.toList.length (S.drop j))/\Hid (Below w1.heap.size w1 wx)) (fun _ i _=>M-(intOf i).toNat)
   case atStart=>exact⟨0,T1,by omega,rfl,rfl,HL0,HQ0,HT0,HB4⟩
   clear HL0 HQ0 HT0 HB4;obtain⟨j,U,hj,rfl,rfl,HL,HQ,HT,HB⟩:=hrel;by_cases hltj:j<M
   . have hjs:j<S.length:=by rw[HM.out];exact hltj
     obtain⟨b,off,rfl,hbl,c0,c1,c2⟩:=(HTk.out.below HB.out (Qa _)).get j hjs;have hd:=Yi5 hjs;obtain⟨t,Ht⟩:=Qi (tk S j);rw[Ht.out] at c0 c1 c2 hd;rw[hd] at HQ HT HL;obtain⟨tb,tl,td⟩:=t;simp only at c0 c1 c2;have hUs:U.data.toList.length=U.size:=(by simp);rw[hUs] at HT HL;have HQ2:Hid (UT (tout U.data.toList ⟨tb,tl,td⟩) (S.drop (j+1))=Q):=HQ.out;have hok1:YjL U.size ⟨tb,tl,td⟩:=HT.out.1;have HT2:Hid (Xk (U.size+tlen ⟨tb,tl,td⟩) (S.drop (j+1))):=HT.out.2
     have hjl2:U.size+tlen ⟨tb,tl,td⟩+Vh (S.drop (j+1))<=100000:=by
      have h:=HL.out;have e:Vh ((⟨tb,tl,td⟩:Tok)::S.drop (j+1))=tlen ⟨tb,tl,td⟩+Vh (S.drop (j+1)):=rfl;rw[e] at h;omega
     obtain⟨rs,Hrs⟩:=Qi (S.drop (j+1));rw[Hrs.out] at HQ2 HT2 hjl2;have dj:decide ((j:Int)<(M:Int))=true:=Qg (by omega);have hjI:(j:Int)<(M:Int):=(by omega);have htb:tb.toNat<256:=UInt8.toNat_lt tb;clear hd HQ HT HL hjs hUs;have hB5:=Blk.new wr 107 #[.int .u8 (tb.toNat:Int),.int .i64 tl,.int .i64 td];have HB5:=Qf (HB.out.alloc HB.out.size (.cells #[.int .u8 (tb.toNat:Int),.int .i64 tl,.int .i64 td] 107));obtain⟨g5,Hg5⟩:=Qi (wr.heap.size);go_upto_region 12 with(fail);rw[Hg5.out] at hB5 ⊢;obtain⟨w6,HW6⟩:=Qi (wr.alloc (.cells #[.int .u8 (tb.toNat:Int),.int .i64 tl,.int .i64 td] 107));rw[HW6.out] at hB5 HB5 ⊢;clear c0 c1 c2 HB HW6 Hg5;have HK5:=Qf hB5;have g0:w6.cell? ⟨g5,0,none⟩=some (.int .u8 (tb.toNat:Int)):=hB5.cell 0;have g1:w6.cell? ⟨g5,1,none⟩=some (.int .i64 tl):=hB5.cell 1;have g2:w6.cell? ⟨g5,2,none⟩=some (.int .i64 td):=hB5.cell 2;clear hB5;by_cases hl0:tl=0
     . subst hl0
       have hto:tout U.data.toList ⟨tb,0,td⟩=U.data.toList++[tb]:=(by unfold tout;rw[if_pos rfl]);have htlen:tlen ⟨tb,0,td⟩=1:=(by unfold tlen;rw[if_pos rfl]);rw[hto] at HQ2;rw[htlen] at HT2 hjl2;have hcv:=X2 w6 (tb.toNat:Int);have HB6:=Qf (HB5.out.alloc HB5.out.size (.cells #[.int .u8 (tb.toNat:Int)] 5));have hov:¬9223372036854775807<U.size+1:=(by omega);have HK6:=Qf (HK5.out.alloc (.cells #[.int .u8 (tb.toNat:Int)] 5));have k1:(w6.alloc (.cells #[.int .u8 (tb.toNat:Int)] 5)).cell? ⟨g5,1,none⟩=some (.int .i64 0):=HK6.out.cell 1;have hob:UInt8.ofNat ((tb.toNat:Int)).toNat=tb:=(by simp);rw[hob] at hcv;have hU1:(U++(⟨#[tb]⟩:ByteArray)).data.toList=U.data.toList++[tb]:=U5 _ _;have hU1s:(U++(⟨#[tb]⟩:ByteArray)).size=U.size+1:=(by rw[ByteArray.size_append];rfl);have hd0:decide ((0:Int)<0)=false:=(by decide);obtain⟨U1,HU1⟩:=Qi (U++(⟨#[tb]⟩:ByteArray));rw[HU1.out] at hU1 hU1s;have hUU:=HU1.out;have HU1l:=Qf hU1;have hU1t:U1.data.toList.length=U.size+1:=(by simp;exact hU1s);have HU1t:=Qf hU1t;clear hto htlen hob hU1 hU1t hU1s hok1;go_wp2_with fail
       (try rw[hUU])
       clear hUU
       go_loop [12,17] (fun vo i=>vo=.string U1/\i=.int .i64 0) (fun _ _=>0)
       case atStart=>exact⟨rfl,rfl⟩
       obtain⟨rfl,rfl⟩:=hrel;go_wp2_with fail;go_roundw
       case rel=>exact⟨j+1,U1,by omega,by go_num,rfl,(by rw[HU1t.out,Hrs.out];exact Qf hjl2),(by rw[HU1l.out,Hrs.out];exact HQ2),(by rw[HU1t.out,Hrs.out];exact HT2),HB6⟩
       simp[intOf];omega
     have dl0:(tl==0)=false:=(by simpa using hl0);obtain⟨hl1,hl300,hd1,hdo⟩:0<tl/\tl<=300/\1<=td/\td<=(U.size:Int):=hok1.resolve_left hl0;obtain⟨L,rfl⟩:∃L:Nat,tl=(L:Int):=⟨tl.toNat,by omega⟩;obtain⟨D,rfl⟩:∃D:Nat,td=(D:Int):=⟨td.toNat,by omega⟩;have hto:tout U.data.toList ⟨tb,(L:Int),(D:Int)⟩=rep D U.data.toList L:=(by unfold tout;rw[if_neg hl0];rfl);have htlen:tlen ⟨tb,(L:Int),(D:Int)⟩=L:=(by unfold tlen;rw[if_neg hl0];rfl);rw[hto] at HQ2;rw[htlen] at HT2 hjl2;clear hto htlen hok1 hl0;go_wp2_with fail
     go_loop [12,17] (fun vo i=>∃(q:Nat) (V:ByteArray),q<=L/\i=.int .i64 (q:Int)/\vo=.string V/\V.size=U.size+q/\Hid (V.data.toList=rep D U.data.toList q)) (fun _ i=>L-(intOf i).toNat)
     case atStart=>exact⟨0,U,by omega,rfl,rfl,rfl,rfl⟩
     obtain⟨y,V,hy,rfl,rfl,hV,HV⟩:=hrel;by_cases hlty:y<L
     . obtain⟨x,hx⟩:∃x,U.size+y=D+x:=⟨U.size+y-D,by omega⟩
       have hVx:V.size=D+x:=(by omega);have hVi:(V.size:Int)-(D:Int)=(x:Int):=(by omega);have hx1:(x:Int)+1<=(V.size:Int):=(by omega);have hx0:(0:Int)<=(x:Int):=(by omega);have hov:¬9223372036854775807<V.size+(min (x+1) V.size-x):=(by omega);have hov2:¬9223372036854775807<V.size+1:=by omega
       have Hsucc:Hid (rep D U.data.toList (y+1)=(V++V.extract x (x+1)).data.toList):=by
        show rep D U.data.toList y++[_]=_;rw[U5,Yed V x (by omega),<-HV.out,show V.data.toList.length=V.size by simp,show V.size-D=x by omega]
       have hsz:(V++V.extract x (x+1)).size=U.size+(y+1):=(by simp;omega);have Hsz:=Qf hsz;have dy:decide ((y:Int)<(L:Int))=true:=Qg (by omega);clear hsz;go_wp2_with fail
       go_round
       case rel=>exact⟨y+1,_,by omega,by go_num,rfl,Hsz.out,by show _=_;rw[Hsucc.out]⟩
       simp[intOf];omega
     obtain rfl:y=L:=(by omega);have dy:decide ((y:Int)<(y:Int))=false:=Qh (by omega);have hVt:V.data.toList.length=U.size+y:=(by simp;exact hV);have HVt:=Qf hVt;clear hVt;go_wp2_with fail;go_roundw
     case rel=>exact⟨j+1,V,by omega,by go_num,rfl,(by rw[HVt.out,Hrs.out];exact Qf hjl2),(by rw[HV.out,Hrs.out];exact HQ2),(by rw[HVt.out,Hrs.out];exact HT2),HB5⟩
     simp[intOf];omega
   obtain rfl:j=M:=by omega
   have dj:decide ((j:Int)<(j:Int))=false:=Qh (by omega)
   have hUQ:U.data.toList=Q:=by
    rw[<-HQ.out,List.drop_of_length_le (by rw[HM.out];exact Qa _)];rfl
   have HUQ:=Qf hUQ;clear hUQ HQ HT HL;go_wp2_with fail;go_roundw
   case rel=>exact⟨k+1,U,by omega,by go_num,rfl,(by rw[HUQ.out,HQl.out,Hrest.out];exact Qf hol2),(by rw[HUQ.out,Hrest.out];exact HR2),(by rw[HUQ.out,HQl.out,Hrest.out,Nat.add_assoc];exact Hok2),HB⟩
   simp[intOf];omega
 obtain rfl:k=N:=by omega
 have dk:decide ((k:Int)<(k:Int))=false:=Qh (by omega)
 have hTR:T.data.toList=R:=by
  rw[<-HR.out,List.drop_of_length_le (by rw[List.length_map,HN.out];exact Qa _)];rfl
 have HTR:=Qf hTR;clear hTR HR Hok Hol;go_wp2_with fail
 go_ret3
 refine⟨Yk HB1.out HB.out,.inr ⟨l.map LBk.b,p,z,Hr.out,hp,?_⟩⟩;rw[Hkp.out]
 have e:(⟨(X5 [] (l.map LBk.b)).toArray⟩:ByteArray)=T:=by
  apply ByteArray.ext;apply Array.ext';show X5 [] (l.map LBk.b)=_;rw[HTR.out];exact HRj.out
 rw[e];rfl
theorem Yf4 (d:ByteArray) (hs:d.size<=12500) (most:Nat) (hm:most<=65536) (w:World) :
 Calls Tryz.prog 36 #[.string d,.int .i64 0,.int .i64 (most:Int)] w fun r w'=>Below w.heap.size w w'/\
  (
   (∃e:Nat,e ≠ 0/\Xo d most=none/\r=.returned (.tuple #[.string ⟨#[]⟩,.int .i64 0,.int .i64 (e:Int)]))\/
   (∃t n,Xo d most=some (t,n)/\n<=100000/\r=.returned (.tuple #[.string t,.int .i64 (n:Int),.int .i64 0]))):=by
 refine(YdO d hs 0 most (Nat.zero_le _) hm d (YaC d) w).mono ?_;rintro r w' ⟨hb,⟨e,h1,h2,h3⟩|⟨bs,p,z,h1,h2,h3⟩⟩
 . exact⟨hb,.inl ⟨e,h1,Ybm h2,h3⟩⟩
 exact⟨hb,.inr ⟨_,_,Ybk h1 h2,by omega,h3⟩⟩
theorem YmD (r:ByteArray) (a k:Nat) (h:a+k<=r.size):r.extract a (a+k)=(r.extract a r.size).extract 0 k:=by
 apply ByteArray.ext;apply Array.ext';have hl:r.data.toList.length=r.size:=by simp
 rw[VO,VO,VO,List.drop_zero,Nat.add_sub_cancel_left,Nat.sub_zero,List.take_take,Nat.min_eq_left (by omega)]
def Yjw (w:World) (res:Except Nat ByteArray) (r:Ending) (w':World):Prop:=
 Below w.heap.size w w'/\((∃e:Nat,res=.error e/\e ≠ 0/\r=.returned (.tuple #[.string ⟨#[]⟩,.int .i64 (e:Int)]))\/(∃x,res=.ok x/\r=.returned (.tuple #[.string x,.int .i64 0])))
set_option maxHeartbeats 8000000 in
theorem YcH (s:ByteArray) (h:Hd) (hs:s.size<=100000) (hsk:s.size<=12500\/h.packed<=12500) (hc:h.crc<4294967296) (hn:h.name.size<=9223372036854775000) (w:World) :
 Calls Tryz.prog 21 #[.string s,h.val] w (Yjw w (Xn s h)):=by
 have CFa:=Qf (fun W=>Ya8 h hc W)
 have hfl:(⟨(Va h).toArray⟩:ByteArray).size=26:=by show(Va h).toArray.size=26;rw[List.size_toArray,XD]
 have HE:Hid ((⟨#[80,75,3,4]⟩:ByteArray)++⟨(Va h).toArray⟩++h.name=locB h):=by
  show _=_;unfold locB Vj;apply ByteArray.ext;apply Array.ext';simp only[ByteArray.data_append,Array.toList_append]
 have hlz:=Ki h;have HF:Hid (Xn s h=if h.place<0\/(s.size:Int)<h.place\/h.packed<0\/h.size<0 then .error 1 else YbV (s.extract h.place.toNat s.size) h):=rfl;have HFR:Hid (∀r,YbV r h=if r.size<(locB h).size\/r.extract 0 (locB h).size ≠ locB h then .error 3 else YbU (r.extract (locB h).size r.size) h):=fun r=>rfl;have HFS:Hid (∀u,YbU u h=if (u.size:Int)<h.packed then .error 3 else if 65536<h.size then .error 2 else Ug (u.extract 0 h.packed.toNat) h):=fun u=>rfl;have HFD:Hid (∀d,Ug d h=if h.method=0 then JM d h else if h.method=8 then (match Xo d h.size.toNat with|none=>.error 3|some (t,n)=>if n=d.size then JM t h else .error 3) else .error 12):=fun d=>rfl;have HFC:Hid (∀t,JM t h=if (t.size:Int) ≠ h.size then .error 3 else if VH 0 t.data.toList ≠ h.crc then .error 5 else .ok t):=fun t=>rfl;obtain⟨L,HL⟩:=Qi (locB h);obtain⟨RES,HR⟩:=Qi (Xn s h);obtain⟨fa,Hfa⟩:=Qi ((⟨(Va h).toArray⟩:ByteArray));rw[HL.out] at HFR hlz HE;rw[Hfa.out] at CFa HE hfl;rw[HR.out] at HF ⊢;obtain⟨fR,HfR⟩:∃f:ByteArray->Except Nat ByteArray,Hid ((fun r=>YbV r h)=f):=⟨_,Qf (Eq.refl _)⟩;obtain⟨fS,HfS⟩:∃f:ByteArray->Except Nat ByteArray,Hid ((fun r=>YbU r h)=f):=⟨_,Qf (Eq.refl _)⟩;obtain⟨fD,HfD⟩:∃f:ByteArray->Except Nat ByteArray,Hid ((fun r=>Ug r h)=f):=⟨_,Qf (Eq.refl _)⟩;obtain⟨fC,HfC⟩:∃f:ByteArray->Except Nat ByteArray,Hid ((fun r=>JM r h)=f):=⟨_,Qf (Eq.refl _)⟩;have gR:=fun r=>congrFun HfR.out r;have gS:=fun r=>congrFun HfS.out r;have gD:=fun r=>congrFun HfD.out r;have gC:=fun r=>congrFun HfC.out r
 have HF2:Hid (RES=if h.place<0\/(s.size:Int)<h.place\/h.packed<0\/h.size<0 then .error 1 else fR (s.extract h.place.toNat s.size)):=by show _=_;rw[HF.out,gR]
 have HFR2:Hid (∀r,fR r=if r.size<L.size\/r.extract 0 L.size ≠ L then .error 3 else fS (r.extract L.size r.size)):=fun r=>by rw[<-gR,HFR.out,gS]
 have HFS2:Hid (∀u,fS u=if (u.size:Int)<h.packed then .error 3 else if 65536<h.size then .error 2 else fD (u.extract 0 h.packed.toNat)):=fun u=>by rw[<-gS,HFS.out,gD]
 have HFD2:Hid (∀d,fD d=if h.method=0 then fC d else if h.method=8 then (match Xo d h.size.toNat with|none=>.error 3|some (t,n)=>if n=d.size then fC t else .error 3) else .error 12):=fun d=>by
  rw[<-gD,HFD.out];simp only[gC]
 have HFC2:Hid (∀t,fC t=if (t.size:Int) ≠ h.size then .error 3 else if VH 0 t.data.toList ≠ h.crc then .error 5 else .ok t):=fun t=>by rw[<-gC,HFC.out]
 clear HF HFR HFS HFD HFC HL HR Hfa HfR HfS HfD HfC gR gS gD gC;obtain⟨nm,me,cr,pk,sz,pl⟩:=h;dsimp only at HF2 HFS2 HFD2 HFC2 hc hn HE hlz hsk;unfold Hd.val Hd.cells at CFa ⊢;dsimp only at CFa ⊢;have hbb:=(Below.refl w.heap.size w).alloc (Qa _) (.cells #[.string nm,.int .i64 me,.int .u32 (cr:Int),.int .i64 pk,.int .i64 sz,.int .i64 pl] 42);have HBB:=Qf hbb;clear hbb;by_cases b0:pl<0
 . have hr:RES=.error 1:=by rw[HF2.out,if_pos (by omega)]
   subst hr;have d0:decide (pl<0)=true:=Qg (by omega);clear HF2 HFR2 HFS2 HFD2 HFC2 CFa hs hsk hn hc HE hlz hfl b0;go_enter Tryz.func21,Tryz.ntmps21;go_wp2_with fail;go_ret2;exact⟨HBB.out,.inl ⟨1,rfl,by decide,rfl⟩⟩
 by_cases b1:(s.size:Int)<pl
 . have hr:RES=.error 1:=by rw[HF2.out,if_pos (by omega)]
   subst hr;have d0:decide (pl<0)=false:=Qh (by omega);have d1:decide ((s.size:Int)<pl)=true:=Qg (by omega);clear HF2 HFR2 HFS2 HFD2 HFC2 CFa hs hsk hn hc HE hlz hfl b0 b1;go_enter Tryz.func21,Tryz.ntmps21;go_wp2_with fail;go_ret2;exact⟨HBB.out,.inl ⟨1,rfl,by decide,rfl⟩⟩
 by_cases b2:pk<0
 . have hr:RES=.error 1:=by rw[HF2.out,if_pos (by omega)]
   subst hr;have d0:decide (pl<0)=false:=Qh (by omega);have d1:decide ((s.size:Int)<pl)=false:=Qh (by omega);have d2:decide (pk<0)=true:=Qg (by omega);clear HF2 HFR2 HFS2 HFD2 HFC2 CFa hs hsk hn hc HE hlz hfl b0 b1 b2;go_enter Tryz.func21,Tryz.ntmps21;go_wp2_with fail;go_ret2;exact⟨HBB.out,.inl ⟨1,rfl,by decide,rfl⟩⟩
 by_cases b3:sz<0
 . have hr:RES=.error 1:=by rw[HF2.out,if_pos (by omega)]
   subst hr;have d0:decide (pl<0)=false:=Qh (by omega);have d1:decide ((s.size:Int)<pl)=false:=Qh (by omega);have d2:decide (pk<0)=false:=Qh (by omega);have d3:decide (sz<0)=true:=Qg (by omega);clear HF2 HFR2 HFS2 HFD2 HFC2 CFa hs hsk hn hc HE hlz hfl b0 b1 b2 b3;go_enter Tryz.func21,Tryz.ntmps21;go_wp2_with fail;go_ret2;exact⟨HBB.out,.inl ⟨1,rfl,by decide,rfl⟩⟩
 obtain⟨p,rfl⟩:∃p:Nat,pl=(p:Int):=⟨pl.toNat,by omega⟩;obtain⟨k,rfl⟩:∃k:Nat,pk=(k:Int):=⟨pk.toNat,by omega⟩;obtain⟨z,rfl⟩:∃z:Nat,sz=(z:Int):=⟨sz.toNat,by omega⟩
 have HF3:Hid (RES=fR (s.extract p s.size)):=by show _=_;rw[HF2.out,if_neg (by omega),Int.toNat_natCast]
 rw[HFR2.out] at HF3;have d0:decide ((p:Int)<0)=false:=Qh (by omega);obtain⟨d1,d1b⟩:=Ql (show p<=s.size by omega);have d2:decide ((k:Int)<0)=false:=Qh (by omega);have d3:decide ((z:Int)<0)=false:=Qh (by omega);have hps:p<=s.size:=by omega
 have hpsI:(p:Int)<=(s.size:Int):=by omega
 have hrs:(s.extract p s.size).size<=s.size:=by rw[ByteArray.size_extract];omega
 have hbx:=Blk.new w 42 #[.string nm,.int .i64 me,.int .u32 (cr:Int),.int .i64 (k:Int),.int .i64 (z:Int),.int .i64 (p:Int)];have HBX:=Qf hbx;obtain⟨r,Hr0⟩:=Qi (s.extract p s.size);rw[Hr0.out] at HF3 hrs;obtain⟨G,HG⟩:=Qi (w.heap.size);rw[HG.out] at HBX;have ho1:¬9223372036854775807<4+fa.size:=by omega
 have ho2:¬9223372036854775807<4+fa.size+nm.size:=by omega
 have ho3:¬9223372036854775807<4+26+nm.size:=by omega
 have ho4:¬9223372036854775807<30+nm.size:=by omega
 have hLb:L.size<=9223372036854775807:=by omega
 clear HF2 HFR2 hbx b0 b1 b2 b3 hn;go_enter Tryz.func21,Tryz.ntmps21;go_upto_region 3 with fail;rw[HG.out];obtain⟨w1,HW1⟩:=Qi (w.alloc (.cells #[.string nm,.int .i64 me,.int .u32 (cr:Int),.int .i64 (k:Int),.int .i64 (z:Int),.int .i64 (p:Int)] 42));rw[HW1.out] at HBX HBB ⊢;clear HW1
 have HS:Hid (∀W,Below w1.heap.size w1 W->W.cell? ⟨G,0,none⟩=some (.string nm)/\W.cell? ⟨G,1,none⟩=some (.int .i64 me)/\W.cell? ⟨G,2,none⟩=some (.int .u32 (cr:Int))/\W.cell? ⟨G,3,none⟩=some (.int .i64 (k:Int))/\W.cell? ⟨G,4,none⟩=some (.int .i64 (z:Int))/\W.cell? ⟨G,5,none⟩=some (.int .i64 (p:Int))):=fun W hb=>by
  have h:=HBX.out.below hb HBX.out.lt;exact⟨h.cell 0,h.cell 1,h.cell 2,h.cell 3,h.cell 4,h.cell 5⟩
 obtain⟨k0,k1,k2,k3,k4,k5⟩:=HS.out w1.drew ((Below.refl _ _).drew)
 go_region_held3 (fun W=>W.cell? ⟨G,0,none⟩=some (.string nm)/\W.cell? ⟨G,1,none⟩=some (.int .i64 me)/\W.cell? ⟨G,2,none⟩=some (.int .u32 (cr:Int))/\W.cell? ⟨G,3,none⟩=some (.int .i64 (k:Int))/\W.cell? ⟨G,4,none⟩=some (.int .i64 (z:Int))/\W.cell? ⟨G,5,none⟩=some (.int .i64 (p:Int)))
  (first|(refine HS.out _ ?_;(repeat' (first|with_reducible exact Below.refl _ _|with_reducible assumption|with_reducible apply Below.drew|with_reducible apply Yo))))
  (first
   |(go_at_call 35;refine(CFa.out _).mono ?_;rintro e w8 ⟨rfl,hb8⟩;have HB8':Below w1.heap.size w1 w8:=Yk (by(repeat' (first|with_reducible exact Below.refl _ _|with_reducible assumption|with_reducible apply Below.drew|with_reducible apply Yo))) hb8;clear hb8))
 all_goals
  clear k0 k1 k2 k3 k4 k5;have HX8:=Qf (HBX.out.below HB8' HBX.out.lt);have HB8:=Qf (Yk HBB.out HB8');clear HB8' HS HBB HBX CFa ho1 ho2 ho3 ho4 d0 d1 d1b d2 d3;go_upto_region 4 with fail;rw[HE.out];have q0:w8.cell? ⟨G,0,none⟩=some (.string nm):=HX8.out.cell 0;have q1:w8.cell? ⟨G,1,none⟩=some (.int .i64 me):=HX8.out.cell 1;have q2:w8.cell? ⟨G,2,none⟩=some (.int .u32 (cr:Int)):=HX8.out.cell 2;have q3:w8.cell? ⟨G,3,none⟩=some (.int .i64 (k:Int)):=HX8.out.cell 3;have q4:w8.cell? ⟨G,4,none⟩=some (.int .i64 (z:Int)):=HX8.out.cell 4;have q5:w8.cell? ⟨G,5,none⟩=some (.int .i64 (p:Int)):=HX8.out.cell 5;have HLZ:=Qf hlz;clear hfl HE hlz;by_cases hL:r.size<L.size
  . obtain⟨a1,a1b⟩:=Qj (show r.size<L.size by omega)
    have hr:RES=.error 3:=(by rw[HF3.out,if_pos (.inl hL)]);subst hr;have Hr1:=Hr0.out;clear HF3 HFS2 HFD2 HFC2;go_wp2_with fail;go_ret2;exact⟨HB8.out,.inl ⟨3,rfl,by decide,rfl⟩⟩
  obtain⟨a1,a1b⟩:=Ql (show L.size<=r.size by omega);have hLr:L.size<=r.size:=by omega
  have hLrI:(L.size:Int)<=(r.size:Int):=by omega
  by_cases hpre:r.extract 0 L.size=L
  . have a2:(!(r.extract 0 L.size).toList==L.toList)=false:=by rw[hpre];simp
    have a3:((r.extract 0 L.size).toList==L.toList)=true:=by rw[hpre];simp
    have HF4:Hid (RES=fS (r.extract L.size r.size)):=by show _=_;rw[HF3.out,if_neg (fun g=>g.elim (fun g=>hL g) (fun g=>g hpre))]
    rw[HFS2.out] at HF4;have huz:(r.extract L.size r.size).size=r.size-L.size:=(by rw[ByteArray.size_extract];omega);rw[huz] at HF4;clear HF3 HFS2 hpre hL;by_cases hk:r.size-L.size<k
    . have a4:decide ((r.size:Int)-(L.size:Int)<(k:Int))=true:=Qg (by omega)
      have hr:RES=.error 3:=(by rw[HF4.out,if_pos (by omega)]);subst hr;clear HF4 HFD2 HFC2;have Hr1:=Hr0.out;go_wp2_with fail;go_ret2;exact⟨HB8.out,.inl ⟨3,rfl,by decide,rfl⟩⟩
    have a4:decide ((r.size:Int)-(L.size:Int)<(k:Int))=false:=Qh (by omega);have hkr:L.size+k<=r.size:=(by omega);by_cases hz:65536<z
    . have d5:decide ((65536:Int)<(z:Int))=true:=Qg (by omega)
      have d5b:decide (65536<z)=true:=Qg (by omega);have hr:RES=.error 2:=(by rw[HF4.out,if_neg (by omega),if_pos (by omega)]);subst hr;clear HF4 HFD2 HFC2;have Hr1:=Hr0.out;go_wp2_with fail;go_ret2;exact⟨HB8.out,.inl ⟨2,rfl,by decide,rfl⟩⟩
    have d5:decide ((65536:Int)<(z:Int))=false:=Qh (by omega);have d5b:decide (65536<z)=false:=Qh (by omega)
    have HF5:Hid (RES=fD ((r.extract L.size r.size).extract 0 k)):=by show _=_;rw[HF4.out,if_neg (by omega),if_neg (by omega),Int.toNat_natCast]
    rw[<-YmD r L.size k hkr,HFD2.out,Int.toNat_natCast] at HF5;obtain⟨e0,He0⟩:=Qi (L.size+k);rw[He0.out] at HF5 hkr
    have hdz:(r.extract L.size e0).size=k:=by rw[ByteArray.size_extract];have:=He0.out;omega
    have hwe:IntKind.i64.wrap ((L.size:Int)+(k:Int))=(e0:Int):=by rw[IntKind.wrap_i64];have:=He0.out;omega
    have hLe:(L.size:Int)<=(e0:Int):=by have:=He0.out;omega
    have hers:(e0:Int)<=(r.size:Int):=(by omega);have hkk:k<=12500:=(by omega);obtain⟨d,Hd0⟩:=Qi (r.extract L.size e0);rw[Hd0.out] at HF5 hdz;have HDZ:=Qf hdz;have hdI:(d.size:Int)=(k:Int):=(by omega);clear HF4 HFD2 hk;by_cases hm0:me=0
    . have HF6:Hid (RES=fC d):=by show _=_;rw[HF5.out,if_pos hm0]
      subst hm0;have Hr1:=Hr0.out;clear HF5;go_upto_region 17 with fail;rw[Hd0.out];clear Hr1;clear hdI hdz;rw[HFC2.out] at HF6;have CC:=Qf (fun W=>Yba d W (by have:=HDZ.out;omega));have CRL:VH 0 d.data.toList<4294967296:=Yce _;obtain⟨cc,Hcc⟩:=Qi (VH 0 d.data.toList);rw[Hcc.out] at HF6 CC CRL;clear HFC2;by_cases hts:d.size=z
      . by_cases hcc:cc=cr
        . have hr:RES=.ok d:=by rw[HF6.out,if_neg (by omega),if_neg (fun g=>g hcc)]
          subst hr;subst hcc;have hts1:(d.size:Int)=(z:Int):=(by omega);clear HF6;have n2:w8.drew.cell? ⟨G,2,none⟩=some (.int .u32 (cc:Int)):=HX8.out.cell 2;go_upto_region 19 with fail
          go_region_held3 (fun W=>W.cell? ⟨G,2,none⟩=some (.int .u32 (cc:Int))) (first|exact n2|exact n7|assumption)
           (first
            |(go_at_call 37;refine(CC.out _).mono ?_;rintro e w7 ⟨rfl,hb7⟩;have n7:w7.cell? ⟨G,2,none⟩=some (.int .u32 (cc:Int)):=(Blk.below (w:=w8.drew) HX8.out hb7 HX8.out.lt).cell 2;have HB7:=Qf (Yk HB8.out.drew hb7);clear hb7))
          all_goals
           go_wp2_with fail;go_ret2;exact⟨HB7.out,.inr ⟨d,rfl,rfl⟩⟩
        have hr:RES=.error 5:=(by rw[HF6.out,if_neg (by omega),if_pos hcc]);subst hr;have hts1:(d.size:Int)=(z:Int):=(by omega);have hcc1:((cc:Int)==(cr:Int))=false:=(by rw[beq_eq_false_iff_ne];omega);have hcc2:¬(cc:Int)=(cr:Int):=(by omega);clear HF6;have n2:w8.drew.cell? ⟨G,2,none⟩=some (.int .u32 (cr:Int)):=HX8.out.cell 2;go_upto_region 19 with fail
        go_region_held3 (fun W=>W.cell? ⟨G,2,none⟩=some (.int .u32 (cr:Int))) (first|exact n2|exact n7|assumption)
         (first
          |(go_at_call 37;refine(CC.out _).mono ?_;rintro e w7 ⟨rfl,hb7⟩;have n7:w7.cell? ⟨G,2,none⟩=some (.int .u32 (cr:Int)):=(Blk.below (w:=w8.drew) HX8.out hb7 HX8.out.lt).cell 2;have HB7:=Qf (Yk HB8.out.drew hb7);clear hb7))
        all_goals
         go_wp2_with fail;go_ret2;exact⟨HB7.out,.inl ⟨5,rfl,by decide,rfl⟩⟩
      have hr:RES=.error 3:=(by rw[HF6.out,if_pos (by omega)]);subst hr;have t1:(d.size==z)=false:=(by rw[beq_eq_false_iff_ne];omega);have t2:¬(d.size:Int)=(z:Int):=(by omega);have t3:((d.size:Int)==(z:Int))=false:=(by rw[beq_eq_false_iff_ne];omega);clear HF6 CC;go_wp2_with fail;go_ret2;exact⟨HB8.out,.inl ⟨3,rfl,by decide,rfl⟩⟩
    by_cases hm8:me=8
    . have HF6:Hid (RES=(match Xo d z with|none=>.error 3|some (t,n)=>if n=d.size then fC t else .error 3)):=by show _=_;rw[HF5.out,if_neg hm0,if_pos hm8]
      subst hm8;have CI:=Qf (fun W=>Yf4 d (by omega) z (by omega) W);have Hr1:=Hr0.out;clear HF5 hm0;go_upto_region 13 with fail;rw[Hd0.out];clear Hr1;go_wp2_with fail;refine(CI.out _).mono ?_;rintro e w9 ⟨hb9,⟨er,he1,he2,rfl⟩|⟨t,n,ht,hn9,rfl⟩⟩
      . have hr:RES=.error 3:=by rw[HF6.out,he2]
        subst hr;have HB9:=Qf (Yk HB8.out hb9);have heI:¬(er:Int)=0:=(by omega);clear HF6 HFC2 hb9 q0 q1 q2 q3 q4 q5 CI;go_wp2_with fail;go_ret2;exact⟨HB9.out,.inl ⟨3,rfl,by decide,rfl⟩⟩
      have HB9:=Qf (Yk HB8.out hb9);have HX9:=Qf (HX8.out.below hb9 HX8.out.lt)
      have HF7:Hid (RES=if n=d.size then fC t else .error 3):=by show _=_;rw[HF6.out,ht]
      have g4:w9.cell? ⟨G,4,none⟩=some (.int .i64 (z:Int)):=HX9.out.cell 4;have HTS:=Qf (Ybl ht);clear HF6 hb9 q0 q1 q2 q3 q4 q5 CI ht;by_cases hnk:n=d.size
      . have HF8:Hid (RES=fC t):=by show _=_;rw[HF7.out,if_pos hnk]
        have hnI:(n:Int)=(d.size:Int):=(by omega);have hnb:((n:Int)==(d.size:Int))=true:=(by rw[beq_iff_eq];exact hnI);subst hnk;clear HF7;go_upto_region 17 with fail;clear hdI hdz hnI hnb;rw[HFC2.out] at HF8;have CC:=Qf (fun W=>Yba t W (by have:=HTS.out;omega));have CRL:VH 0 t.data.toList<4294967296:=Yce _;obtain⟨cc,Hcc⟩:=Qi (VH 0 t.data.toList);rw[Hcc.out] at HF8 CC CRL;clear HFC2;by_cases hts:t.size=z
        . by_cases hcc:cc=cr
          . have hr:RES=.ok t:=by rw[HF8.out,if_neg (by omega),if_neg (fun g=>g hcc)]
            subst hr;subst hcc;have hts1:(t.size:Int)=(z:Int):=(by omega);clear HF8;have n2:w9.drew.cell? ⟨G,2,none⟩=some (.int .u32 (cc:Int)):=HX9.out.cell 2;go_upto_region 19 with fail
            go_region_held3 (fun W=>W.cell? ⟨G,2,none⟩=some (.int .u32 (cc:Int))) (first|exact n2|exact n7|assumption)
             (first
              |(go_at_call 37;refine(CC.out _).mono ?_;rintro e w7 ⟨rfl,hb7⟩;have n7:w7.cell? ⟨G,2,none⟩=some (.int .u32 (cc:Int)):=(Blk.below (w:=w9.drew) HX9.out hb7 HX9.out.lt).cell 2;have HB7:=Qf (Yk HB9.out.drew hb7);clear hb7))
            all_goals
             go_wp2_with fail;go_ret2;exact⟨HB7.out,.inr ⟨t,rfl,rfl⟩⟩
          have hr:RES=.error 5:=(by rw[HF8.out,if_neg (by omega),if_pos hcc]);subst hr;have hts1:(t.size:Int)=(z:Int):=(by omega);have hcc1:((cc:Int)==(cr:Int))=false:=(by rw[beq_eq_false_iff_ne];omega);have hcc2:¬(cc:Int)=(cr:Int):=(by omega);clear HF8;have n2:w9.drew.cell? ⟨G,2,none⟩=some (.int .u32 (cr:Int)):=HX9.out.cell 2;go_upto_region 19 with fail
          go_region_held3 (fun W=>W.cell? ⟨G,2,none⟩=some (.int .u32 (cr:Int))) (first|exact n2|exact n7|assumption)
           (first
            |(go_at_call 37;refine(CC.out _).mono ?_;rintro e w7 ⟨rfl,hb7⟩;have n7:w7.cell? ⟨G,2,none⟩=some (.int .u32 (cr:Int)):=(Blk.below (w:=w9.drew) HX9.out hb7 HX9.out.lt).cell 2;have HB7:=Qf (Yk HB9.out.drew hb7);clear hb7))
          all_goals
           go_wp2_with fail;go_ret2;exact⟨HB7.out,.inl ⟨5,rfl,by decide,rfl⟩⟩
        have hr:RES=.error 3:=(by rw[HF8.out,if_pos (by omega)]);subst hr;have t1:(t.size==z)=false:=(by rw[beq_eq_false_iff_ne];omega);have t2:¬(t.size:Int)=(z:Int):=(by omega);have t3:((t.size:Int)==(z:Int))=false:=(by rw[beq_eq_false_iff_ne];omega);clear HF8 CC;go_wp2_with fail;go_ret2;exact⟨HB9.out,.inl ⟨3,rfl,by decide,rfl⟩⟩
      have hr:RES=.error 3:=(by rw[HF7.out,if_neg hnk]);subst hr;have hnkI:¬(n:Int)=(d.size:Int):=(by omega);have hnkb:((n:Int)==(d.size:Int))=false:=(by rw[beq_eq_false_iff_ne];omega);have hnkI2:¬(n:Int)=(k:Int):=(by omega);have hnkb2:((n:Int)==(k:Int))=false:=(by rw[beq_eq_false_iff_ne];omega);clear HF7 HFC2 hdz;go_wp2_with fail;go_ret2;exact⟨HB9.out,.inl ⟨3,rfl,by decide,rfl⟩⟩
    have hr:RES=.error 12:=(by rw[HF5.out,if_neg hm0,if_neg hm8]);subst hr;have m0:(me==0)=false:=(by rw[beq_eq_false_iff_ne];exact hm0);have m8:(me==8)=false:=(by rw[beq_eq_false_iff_ne];exact hm8);have n0:(me !=0)=true:=(by rw[bne_iff_ne];exact hm0);have n8:(me !=8)=true:=(by rw[bne_iff_ne];exact hm8);have Hr1:=Hr0.out;clear HF5 HFC2;go_wp2_with fail;go_ret2;exact⟨HB8.out,.inl ⟨12,rfl,by decide,rfl⟩⟩
  have a2:((r.extract 0 L.size).toList==L.toList)=false:=by
   cases hh:((r.extract 0 L.size).toList==L.toList) with
   |false=>rfl
   |true=>
    rw[ByteArray.toList_eq,ByteArray.toList_eq] at hh;exact absurd (ByteArray.ext (Array.ext' (by simpa using hh))) hpre
  have hr:RES=.error 3:=by rw[HF3.out,if_pos (.inr hpre)]
  subst hr;have Hr1:=Hr0.out;clear HF3 HFS2 HFD2 HFC2 hpre;go_wp2_with fail;go_ret2;exact⟨HB8.out,.inl ⟨3,rfl,by decide,rfl⟩⟩
def VD (L:List Fl):List Value:=L.flatMap fun f=>[.string f.1,.string f.2]
theorem Um (L M:List Fl):VD (L++M)=VD L++VD M:=by simp[VD]
theorem Yc7:(Tryz.prog.info? 44).map (fun i=>(i.zero,i.size,i.bytes))=some (some (.agg #[.string ⟨#[]⟩,.string ⟨#[]⟩]),2,32):=by kernel_rfl
def OwnFl (w:World) (base:Nat) (v:Value) (L:List Fl):Prop:=w.ownsRow base 44 2 v L.length (VD L)
theorem Yfd (a b:ByteArray):∀u ∈ ([.string a,.string b]:List Value),u.oneCell'=true:=by
 intro u hu;simp only[List.mem_cons,List.not_mem_nil,or_false] at hu;rcases hu with rfl|rfl<;>rfl
theorem OwnFl.snoc {w:World} {base:Nat} {v:Value} {L:List Fl} {a b:ByteArray} (ho:w.ownsRow base 44 2 v (L.length+1) (VD L++[.string a,.string b])):OwnFl w base v (L++[(a,b)]):=by
 unfold OwnFl;rw[List.length_append,Um];exact ho
theorem Uc (L:List Fl) (k:Nat) (hk:k<L.length):(VD L)[k*2]?=some (.string (L[k]).1)/\(VD L)[k*2+1]?=some (.string (L[k]).2):=by
 induction L generalizing k with
 |nil=>cases hk
 |cons x r ih=>
  have e:VD (x::r)=.string x.1::.string x.2::VD r:=rfl;rw[e]
  cases k with
  |zero=>exact⟨rfl,rfl⟩
  |succ k=>
   have:=ih k (by simpa using hk);rw[show(k+1)*2=k*2+1+1 by omega];simp only[List.getElem?_cons_succ,List.getElem_cons_succ];exact this
theorem OwnFl.view {w:World} {base:Nat} {v:Value} {L:List Fl} (h:OwnFl w base v L):∃a cap,v=.slice a L.length cap/\FRow w a L:=by
 have hlt:=World.ownsRow.lt h;have hc:=fun g hg=>World.ownsRow.cells h (g:=g) hg;rcases h.2 with⟨rfl,h0⟩|⟨G,cap,cur,rfl,_⟩
 . exact⟨none,0,by rw[h0],fun k hk=>by omega⟩
 refine⟨_,_,rfl,fun k hk=>⟨G,0,rfl,(hlt G rfl).2,?_,?_⟩⟩
 . have e0:∀j,(⟨G,0,none⟩:Addr).add j=⟨G,j,none⟩:=fun j=>by unfold Addr.add;split<;>simp_all
   have:=hc G rfl (k*2) _ (Uc L k hk).1;rw[e0] at this
   rwa [Nat.zero_add]
 have e0:∀j,(⟨G,0,none⟩:Addr).add j=⟨G,j,none⟩:=fun j=>by unfold Addr.add;split<;>simp_all
 have:=hc G rfl (k*2+1) _ (Uc L k hk).2;rw[e0] at this
 rwa [Nat.zero_add]
theorem OwnFl.below {w w':World} {base B:Nat} {v:Value} {L:List Fl} (h:OwnFl w base v L) (hb:Below B w w') (hB:w.heap.size<=B):OwnFl w' base v L:=by
 have hlt:=World.ownsRow.lt h;refine⟨h.1,?_⟩;rcases h.2 with h2|⟨g,cap,cur,rfl,h3,h4,h5⟩
 . exact .inl h2
 exact .inr ⟨g,cap,cur,rfl,h3,(hb.block g (Qb (hlt g rfl).2 hB)).trans h4,h5⟩
def few (s:ByteArray) (n:Nat):ByteArray:=if n<s.size then s.extract 0 n else s
theorem Ynz (s:ByteArray) (n:Nat):(few s n).data.toList=s.data.toList.take n:=by
 unfold few;split
 . simp
 rw[List.take_of_length_le (by simp;omega)]
theorem Yca (s:ByteArray) (n:Nat):(few s n).size<=n:=by
 unfold few;split
 . simp;omega
 omega
theorem Yec (s:ByteArray) (n:Nat) (hn:n<=100000) (_hs:s.size<=maxLen) (w:World) :
 Calls Tryz.prog 16 #[.string s,.int .i64 (n:Int)] w fun e w'=>e=.returned (.string (few s n))/\w=w':=by
 by_cases h:n<s.size
 . have e:=Qf (show few s n=s.extract 0 n by unfold few;rw[if_pos h])
   go_enter Tryz.func16,Tryz.ntmps16
   go_wp2
   go_ret;exact⟨by rw[e.out];rfl,rfl⟩
 have e:=Qf (show few s n=s by unfold few;rw[if_neg h]);go_enter Tryz.func16,Tryz.ntmps16
 go_wp2
 go_ret;exact⟨by rw[e.out];rfl,rfl⟩
theorem YgX {P:Program} {f:FuncId} {args:Array Value} {w:World} {v:Value} (h:Calls P f args w fun e w'=>e=.returned v/\w=w'):Calls P f args w fun e w'=>e=.returned v/\w'=w:=
 h.mono fun _ _ h=>⟨h.1,h.2.symm⟩
theorem OwnFl.empty (w:World) (base:Nat) (hb:base<=w.heap.size):OwnFl (w.alloc (.cells #[] 44)) base (.slice (some ⟨w.heap.size,0,none⟩) 0 0) []:=
 ⟨rfl,.inr ⟨w.heap.size,0,#[],rfl,hb,Blk.new w _ _,Qa _,Nat.zero_le _,rfl,rfl⟩⟩
def KM (L:List Fl) (n:Nat):List Fl:=(L.take n).map fun f=>(f.1,few f.2 400)
theorem YfX (L:List Fl) (n:Nat):(KM L n).length=min n L.length:=by simp[KM]
theorem Ya3 {L:List Fl} {n:Nat} {f:Fl} (h:f ∈ KM L n):f.2.size<=400/\∃g ∈ L,f.1=g.1:=by
 unfold KM at h;rw[List.mem_map] at h;obtain⟨g,hg,rfl⟩:=h;exact⟨Yca _ _,g,List.mem_of_mem_take hg,rfl⟩
attribute [local irreducible] wpStill
set_option maxHeartbeats 4000000 in
theorem YhG (L:List Fl) (a:Option Addr) (cap:Nat) (n:Nat) (hn:n<=100) (hs:∀f ∈ L,f.2.size<=maxLen) (w:World) (hr:FRow w a L) :
 Calls Tryz.prog 6 #[.slice a L.length cap,.int .i64 (n:Int)] w fun e w'=>Below w.heap.size w w'/\∃v,e=.returned v/\OwnFl w' w.heap.size v (KM L n):=by
 have HR:=Qf hr;have HS:=Qf hs;have HB0:=Qf (Below.refl w.heap.size w);obtain⟨M,HM⟩:=Qi (L.length);rw[HM.out];have HO0:Hid (OwnFl (w.alloc (.cells #[] 44)) w.heap.size (.slice (some ⟨w.heap.size,0,none⟩) 0 0) ((L.take 0).map fun f=>(f.1,few f.2 400))):=OwnFl.empty w _ (Qa _);have HBa:=Qf ((Below.refl w.heap.size w).alloc (Qa _) (.cells #[] 44));obtain⟨w1,HW1⟩:=Qi (w.alloc (.cells #[] 44));rw[HW1.out] at HO0 HBa;clear hr hs HB0;go_enter Tryz.func6,Tryz.ntmps6;go_wp2_with fail;rw[HW1.out]
 go_loopw [5,6] (fun v_ j_ wq=>∃(j:Nat),j<=M/\j<=n/\j_=.int .i64 (j:Int)/\Hid (OwnFl wq w.heap.size v_ ((L.take j).map fun f=>(f.1,few f.2 400)))/\Hid (Below w.heap.size w wq)) (fun _ j _=>M-(intOf j).toNat)
 case atStart=>exact⟨0,Nat.zero_le _,Nat.zero_le _,rfl,HO0,HBa⟩
 clear HO0 HBa;obtain⟨j,hjM,hjn,rfl,HO,HB⟩:=hrel;have hln:((L.take j).map fun f=>((f.1,few f.2 400):Fl)).length=j:=by rw[List.length_map,List.length_take,HM.out];omega
 obtain⟨oa,ocap,rfl,-⟩:=HO.out.view;rw[hln] at HO ⊢;have HLn:=Qf hln;clear hln;by_cases hlt:j<M/\j<n
 . obtain⟨dj,djb⟩:=Qj (show j<M by omega)
   obtain⟨dn,dnb⟩:=Qj (show j<n by omega);have hjI:(j:Int)<(M:Int):=by omega
   have hjL:j<L.length:=by rw[HM.out];exact hlt.1
   obtain⟨b,off,rfl,hbl,c0',c1'⟩:=HR.out j hjL;have c0:=(HB.out.cell (p:=⟨b,off+j*2,none⟩) hbl).trans c0';have c1:=(HB.out.cell (p:=⟨b,off+j*2+1,none⟩) hbl).trans c1';have HBL:=Qf hbl;clear c0' c1';have hsz:=HS.out _ (List.getElem_mem hjL)
   have hsn:Hid ((L.take (j+1)).map (fun f=>((f.1,few f.2 400):Fl))=((L.take j).map fun f=>(f.1,few f.2 400))++[((L[j]).1,few (L[j]).2 400)]):=by
    show _=_;rw[List.take_succ_eq_append_getElem hjL,List.map_append];rfl
   obtain⟨⟨nm,dt⟩,Hf⟩:∃R,Hid (L[j]=R):=⟨_,Qf (Eq.refl _)⟩;rw[Hf.out] at c0 c1 hsz hsn;dsimp only at c0 c1 hsz hsn;have CF:=Qf (fun W=>YgX (Yec dt 400 (by decide) hsz W));obtain⟨fd,Hfd⟩:=Qi (few dt 400);rw[Hfd.out] at CF hsn
   have hos:wr.drew.ownsRow w.heap.size 44 2 (.slice oa j ocap) j (VD ((L.take j).map fun f=>(f.1,few f.2 400))):=by
    have:=HO.out;unfold OwnFl at this;rw[HLn.out] at this;exact this.drew
   have HBz:Hid (Below w.heap.size w wr.drew):=HB.out.drew;have hbsw:w.heap.size<=wr.drew.heap.size:=HBz.out.size;have hone:=Yfd nm fd;obtain⟨XS,HXS⟩:=Qi (VD ((L.take j).map fun f=>(f.1,few f.2 400)));rw[HXS.out] at hos;have z0:wr.drew.cell? ⟨b,off+j*2,none⟩=some (.string nm):=c0;have z1:wr.drew.cell? ⟨b,off+j*2+1,none⟩=some (.string dt):=c1;clear hjL hbl Hf HO HB hsz;go_upto_region 5 with fail
   go_region_held3 (fun W=>W.cell? ⟨b,off+j*2,none⟩=some (.string nm)/\W.cell? ⟨b,off+j*2+1,none⟩=some (.string dt)) (first|exact⟨z0,z1⟩|exact⟨y0,y1⟩|exact⟨by assumption,by assumption⟩|go_keep)
    (first
     |(go_at_call 16;refine(CF.out _).mono ?_;rintro e w7 ⟨rfl,rfl⟩)
     |(refine KJ wr.drew rfl (.tmp 19) (.tmp 32) rfl Tryz.underlying22 Yc7 rfl (by decide) w.heap.size (.slice oa j ocap) j XS [.string nm,.string fd] 1 hos rfl hone rfl (sz:=wr.drew.heap.size) rfl rfl ?_ ?_ hbsw rfl ?_;(unfold maxLen;omega);omega;intro v8 w8 hown8 hg8;have HO8:=Qf hown8;have hbg:=Yb hos hg8 hbsw;have y0:w8.cell? ⟨b,off+j*2,none⟩=some (.string nm):=(hbg.cell (p:=⟨b,off+j*2,none⟩) HBL.out).trans z0;have y1:w8.cell? ⟨b,off+j*2+1,none⟩=some (.string dt):=(hbg.cell (p:=⟨b,off+j*2+1,none⟩) HBL.out).trans z1;have HB8:=Qf (HBz.out.trans hbg);clear hown8 hg8 hbg))
   all_goals
    go_wp2_with fail;rw[<-HXS.out] at HO8;go_roundw
    case rel=>exact⟨j+1,by omega,by omega,by go_num,(by show OwnFl _ _ _ _;rw[hsn.out];exact OwnFl.snoc (by rw[HLn.out];exact HO8.out)),HB8⟩
    simp[intOf];omega
 have hO2:OwnFl wr w.heap.size (.slice oa j ocap) (KM L n):=by
  have:=HO.out;unfold KM;rcases Nat.lt_or_ge j n with h|h
  . have e1:L.take j=L.take n:=by rw[List.take_of_length_le (by rw[HM.out];omega),List.take_of_length_le (by rw[HM.out];omega)]
    rw[<-e1];exact this
  have e1:j=n:=by omega
  rw[<-e1];exact this
 have HO2:=Qf hO2
 have hnot:(decide ((j:Int)<(M:Int))=false/\decide (j<M)=false)\/((decide ((j:Int)<(M:Int))=true/\decide (j<M)=true)/\(decide ((j:Int)<(n:Int))=false/\decide (j<n)=false)):=by
  rcases Nat.lt_or_ge j M with h|h
  . exact .inr ⟨⟨Qg (by omega),Qg (by omega)⟩,⟨Qh (by omega),Qh (by omega)⟩⟩
  exact .inl ⟨Qh (by omega),Qh (by omega)⟩
 clear hO2 HO hlt;rcases hnot with⟨d4,d4b⟩|⟨⟨d4,d4b⟩,d5,d5b⟩
 all_goals
  go_wp2_with fail;go_ret;exact⟨HB.out,_,rfl,HO2.out⟩
theorem Ybi:(Tryz.prog.info? 70).map (fun i=>(i.zero,i.size,i.bytes))=some (some (.agg #[.string ⟨#[]⟩,.string ⟨#[]⟩]),2,32):=by kernel_rfl
def OwnFr (w:World) (base:Nat) (v:Value) (L:List Fl):Prop:=w.ownsRow base 70 2 v L.length (VD L)
theorem OwnFr.snoc {w:World} {base:Nat} {v:Value} {L:List Fl} {a b:ByteArray} (ho:w.ownsRow base 70 2 v (L.length+1) (VD L++[.string a,.string b])):OwnFr w base v (L++[(a,b)]):=by
 unfold OwnFr;rw[List.length_append,Um];exact ho
theorem OwnFr.view {w:World} {base:Nat} {v:Value} {L:List Fl} (h:OwnFr w base v L):∃a cap,v=.slice a L.length cap/\FRow w a L:=by
 have hlt:=World.ownsRow.lt h;have hc:=fun g hg=>World.ownsRow.cells h (g:=g) hg;rcases h.2 with⟨rfl,h0⟩|⟨G,cap,cur,rfl,_⟩
 . exact⟨none,0,by rw[h0],fun k hk=>by omega⟩
 refine⟨_,_,rfl,fun k hk=>⟨G,0,rfl,(hlt G rfl).2,?_,?_⟩⟩
 . have e0:∀j,(⟨G,0,none⟩:Addr).add j=⟨G,j,none⟩:=fun j=>by unfold Addr.add;split<;>simp_all
   have:=hc G rfl (k*2) _ (Uc L k hk).1;rw[e0] at this
   rwa [Nat.zero_add]
 have e0:∀j,(⟨G,0,none⟩:Addr).add j=⟨G,j,none⟩:=fun j=>by unfold Addr.add;split<;>simp_all
 have:=hc G rfl (k*2+1) _ (Uc L k hk).2;rw[e0] at this
 rwa [Nat.zero_add]
theorem OwnFr.below {w w':World} {base B:Nat} {v:Value} {L:List Fl} (h:OwnFr w base v L) (hb:Below B w w') (hB:w.heap.size<=B):OwnFr w' base v L:=by
 have hlt:=World.ownsRow.lt h;refine⟨h.1,?_⟩;rcases h.2 with h2|⟨g,cap,cur,rfl,h3,h4,h5⟩
 . exact .inl h2
 exact .inr ⟨g,cap,cur,rfl,h3,(hb.block g (Qb (hlt g rfl).2 hB)).trans h4,h5⟩
theorem OwnFr.empty (w:World) (base:Nat) (hb:base<=w.heap.size):OwnFr (w.alloc (.cells #[] 70)) base (.slice (some ⟨w.heap.size,0,none⟩) 0 0) []:=
 ⟨rfl,.inr ⟨w.heap.size,0,#[],rfl,hb,Blk.new w _ _,Qa _,Nat.zero_le _,rfl,rfl⟩⟩
set_option maxHeartbeats 4000000 in
theorem Yeu (L:List Fl) (a:Option Addr) (cap:Nat) (hL:L.length<=100000000) (w:World) (hr:FRow w a L) :
 Calls Tryz.prog 9 #[.slice a L.length cap] w fun e w'=>Below w.heap.size w w'/\∃v,e=.returned v/\OwnFr w' w.heap.size v L:=by
 have HR:=Qf hr;obtain⟨M,HM⟩:=Qi (L.length);rw[HM.out] at hL ⊢;have HO0:Hid (OwnFr (w.alloc (.cells #[] 70)) w.heap.size (.slice (some ⟨w.heap.size,0,none⟩) 0 0) (L.take 0)):=OwnFr.empty w _ (Qa _);have HBa:=Qf ((Below.refl w.heap.size w).alloc (Qa _) (.cells #[] 70));obtain⟨w1,HW1⟩:=Qi (w.alloc (.cells #[] 70));rw[HW1.out] at HO0 HBa;clear hr;go_enter Tryz.func9,Tryz.ntmps9;go_wp2_with fail;rw[HW1.out]
 go_loopw [3,9] (fun v_ j_ wq=>∃(j:Nat),j<=M/\j_=.int .i64 (j:Int)/\Hid (OwnFr wq w.heap.size v_ (L.take j))/\Hid (Below w.heap.size w wq)) (fun _ j _=>M-(intOf j).toNat)
 case atStart=>exact⟨0,Nat.zero_le _,rfl,HO0,HBa⟩
 clear HO0 HBa;obtain⟨j,hjM,rfl,HO,HB⟩:=hrel;by_cases hlt:j<M
 . have hln:(L.take j).length=j:=by rw[List.length_take,HM.out];omega
   obtain⟨oa,ocap,rfl,-⟩:=HO.out.view;rw[hln] at HO ⊢;have HLn:=Qf hln;obtain⟨dj,djb⟩:=Qj (show j<M by omega);have hjI:(j:Int)<(M:Int):=by omega
   have hjL:j<L.length:=by rw[HM.out];exact hlt
   obtain⟨b,off,rfl,hbl,c0,c1⟩:=(HR.out.below HB.out (Qa _)) j hjL
   have hsn:Hid (L.take (j+1)=L.take j++[((L[j]).1,(L[j]).2)]):=by
    show _=_;rw[List.take_succ_eq_append_getElem hjL]
   obtain⟨⟨nm,dt⟩,Hf⟩:∃R,Hid (L[j]=R):=⟨_,Qf (Eq.refl _)⟩;rw[Hf.out] at c0 c1 hsn;dsimp only at c0 c1 hsn;have hal:=HB.out.alloc HB.out.size (.cells #[.string nm,.string dt] 44);have hos:=HO.out.below (Yo (Below.refl wr.heap.size wr) (.cells #[.string nm,.string dt] 44)) (Qa _);unfold OwnFr at hos;rw[hln] at hos;have HBn:=Qf (Blk.new wr 44 #[.string nm,.string dt]);clear hln hjL hbl Hf;go_upto_region 5 with fail;obtain⟨G,HG⟩:=Qi (wr.heap.size);rw[HG.out] at HBn ⊢;obtain⟨w2,HW2⟩:=Qi (wr.alloc (.cells #[.string nm,.string dt] 44));rw[HW2.out] at HBn hal hos ⊢;clear HW2 c0 c1;have k0:w2.cell? ⟨G,0,none⟩=some (.string nm):=HBn.out.cell 0;have k1:w2.cell? ⟨G,1,none⟩=some (.string dt):=HBn.out.cell 1;have HBal:=Qf hal;have hbsw:w.heap.size<=w2.heap.size:=hal.size;have hone:=Yfd nm dt;clear hal HO HB
   go_wp2_with (first
    |(at_builtin;go_must (refine Ya _ rfl (.tmp 13) (.tmp 15) rfl Tryz.underlying28 Ybi rfl (by decide) w.heap.size (.slice oa j ocap) j (VD (L.take j)) [.string nm,.string dt] hos rfl hone rfl rfl rfl ?_ ?_ hbsw ?_;(unfold maxLen;omega);omega;intro v8 w8 hown8 hg8;have HO8:=Qf hown8;have HB8:=Qf (HBal.out.trans (Yb hos hg8 hbsw));clear hown8 hg8))
    |fail)
   go_roundw
   case rel=>exact⟨j+1,by omega,by go_num,(by show OwnFr _ _ _ _;rw[hsn.out];exact OwnFr.snoc (by rw[HLn.out];exact HO8.out)),HB8⟩
   simp[intOf];omega
 obtain rfl:j=M:=by omega
 have dj:decide ((j:Int)<(j:Int))=false:=Qh (by omega);have hO2:=HO.out;rw[List.take_of_length_le (by rw[HM.out];exact Qa _)] at hO2;have HO2:=Qf hO2;clear hO2 HO;go_wp2_with fail;go_ret;exact⟨HB.out,_,rfl,HO2.out⟩
open Classical in
noncomputable def YdJ (L1 L2:List Fl):Bool:=decide (L1=L2)
theorem bytes_eq {a b:ByteArray}:(a.toList==b.toList)=true ↔ a=b:=by
 rw[ByteArray.toList_eq,ByteArray.toList_eq];constructor
 . intro h;exact ByteArray.ext (Array.ext' (by simpa using h))
 rintro rfl;simp
theorem Yfm {a b:ByteArray} (h:a ≠ b):(a.toList==b.toList)=false:=by
 cases hh:(a.toList==b.toList) with
 |false=>rfl
 |true=>exact absurd (bytes_eq.1 hh) h
theorem Yiw {L1 L2:List Fl} {j:Nat} (h1:j<L1.length) (h2:j<L2.length) (h:L1.take j=L2.take j) (he:L1[j]=L2[j]):L1.take (j+1)=L2.take (j+1):=by
 rw[List.take_succ_eq_append_getElem h1,List.take_succ_eq_append_getElem h2,h,he]
set_option maxHeartbeats 4000000 in
theorem YeE (L1 L2:List Fl) (a1 a2:Option Addr) (c1 c2:Nat) (h1:L1.length<=100000000) (h2:L2.length<=100000000) (w:World) (r1:FRow w a1 L1) (r2:FRow w a2 L2) :
 Calls Tryz.prog 12 #[.slice a1 L1.length c1,.slice a2 L2.length c2] w fun e w'=>Below w.heap.size w w'/\e=.returned (.bool (YdJ L1 L2)):=by
 classical
 have R1:=Qf r1;have R2:=Qf r2;have HB0:=Qf (Below.refl w.heap.size w);obtain⟨M,HM⟩:=Qi (L1.length);obtain⟨N,HN⟩:=Qi (L2.length);obtain⟨z,HZ⟩:=Qi (YdJ L1 L2);rw[HM.out] at h1 ⊢;rw[HN.out] at h2 ⊢;rw[HZ.out];clear r1 r2;by_cases hmn:M=N
 . subst hmn
   have HS0:Hid (L1.take 0=L2.take 0):=rfl;go_enter Tryz.func12,Tryz.ntmps12;go_wp2_with fail
   go_loopw [13] (fun j_ wq=>∃(j:Nat),j<=M/\j_=.int .i64 (j:Int)/\Hid (L1.take j=L2.take j)/\Hid (Below w.heap.size w wq)) (fun j _=>M-(intOf j).toNat)
   case atStart=>exact⟨0,Nat.zero_le _,rfl,HS0,HB0⟩
   clear HS0 HB0;obtain⟨j,hjM,rfl,HS,HB⟩:=hrel;by_cases hlt:j<M
   . obtain⟨dj,djb⟩:=Qj (show j<M by omega)
     have hjI:(j:Int)<(M:Int):=(by omega);have hj1:j<L1.length:=(by rw[HM.out];exact hlt);have hj2:j<L2.length:=(by rw[HN.out];exact hlt);obtain⟨b1,o1,rfl,hb1,p0,p1⟩:=(R1.out.below HB.out (Qa _)) j hj1;obtain⟨b2,o2,rfl,hb2,q0,q1⟩:=(R2.out.below HB.out (Qa _)) j hj2;have HNx:Hid (L1[j]=L2[j]->L1.take (j+1)=L2.take (j+1)):=fun he=>Yiw hj1 hj2 HS.out he
     have HNo:Hid (L1[j] ≠ L2[j]->z=false):=fun he=>by
      rw[<-HZ.out];unfold YdJ;rw[decide_eq_false_iff_not];rintro rfl;exact he rfl
     obtain⟨⟨x1,y1⟩,Hf1⟩:∃R,Hid (L1[j]=R):=⟨_,Qf (Eq.refl _)⟩;obtain⟨⟨x2,y2⟩,Hf2⟩:∃R,Hid (L2[j]=R):=⟨_,Qf (Eq.refl _)⟩;rw[Hf1.out] at p0 p1 HNx HNo;rw[Hf2.out] at q0 q1 HNx HNo;dsimp only at p0 p1 q0 q1;clear Hf1 Hf2 hj1 hj2 hb1 hb2;by_cases hx:x1=x2
     . by_cases hy:y1=y2
       . have HS2:=Qf (HNx.out (by rw[hx,hy]))
         subst hx;subst hy;clear HNx HNo;go_wp2_with fail
         go_quiet (fail)
         all_goals
          go_wp2_with fail;go_roundw
          case rel=>exact⟨j+1,by omega,by go_num,HS2,Qf (Yh HB.out _)⟩
          simp[intOf];omega
       have hz:=HNo.out (fun h=>by injection h with h h';exact hy h');subst hz;subst hx;have hyb:=Yfm hy;clear HNx HNo;go_wp2_with fail
       go_quiet (fail)
       all_goals
        go_wp2_with fail;go_ret;exact⟨Yh HB.out _,rfl⟩
     have hz:=HNo.out (fun h=>by injection h with h h';exact hx h);subst hz;have hxb:=Yfm hx;clear HNx HNo;go_wp2_with fail
     go_quiet (fail)
     all_goals
      go_wp2_with fail;go_ret;exact⟨Yh HB.out _,rfl⟩
   obtain rfl:j=M:=by omega
   have dj:decide ((j:Int)<(j:Int))=false:=Qh (by omega)
   have hz:z=true:=by
    have:=HS.out;rw[List.take_of_length_le (by rw[HM.out];exact Qa _),List.take_of_length_le (by rw[HN.out];exact Qa _)] at this;rw[<-HZ.out];unfold YdJ;rw[decide_eq_true_eq];exact this
   subst hz;go_wp2_with fail;go_ret;exact⟨HB.out,rfl⟩
 have hz:z=false:=by
  rw[<-HZ.out];unfold YdJ;rw[decide_eq_false_iff_not];rintro rfl;exact hmn (HM.out.symm.trans HN.out)
 subst hz;have hmnI:¬(M:Int)=(N:Int):=by omega
 have hmnb:((M:Int)==(N:Int))=false:=by rw[beq_eq_false_iff_ne];omega
 go_enter Tryz.func12,Tryz.ntmps12;go_wp2_with fail;go_ret;exact⟨HB0.out,rfl⟩
def Ydp (w:World) (res:Except Nat ByteArray) (r:Ending) (w':World):Prop:=
 Below w.heap.size w w'/\((∃e:Nat,res=.error e/\e ≠ 0/\r=.returned (.tuple #[.string ⟨#[]⟩,.int .i64 (e:Int)]))\/(∃x,res=.ok x/\r=.returned (.tuple #[.string x,.int .i64 0])))
theorem Yh9 {w:World} {b e s n b' e' s' n':Nat} {v v':Value} {x x':List Value} (h:w.ownsRow b e s v n x) (k:w.ownsRow b' e' s' v' n' x') (hne:e ≠ e'):∀g,v.ownBlock=some g->v'.ownBlock ≠ some g:=by
 intro g hg hg';rcases h.2 with⟨rfl,_⟩|⟨g1,cap,cur,rfl,_,hh,_⟩
 . cases hg
 rcases k.2 with⟨rfl,_⟩|⟨g2,cap2,cur2,rfl,_,kk,_⟩
 . cases hg'
 simp only[Value.ownBlock,Option.some.injEq] at hg hg';subst hg;subst hg';rw[hh] at kk;simp only[Option.some.injEq,Obj.cells.injEq] at kk;exact hne kk.2.1
theorem OwnH.chg {w w':World} {base B:Nat} {vh vb:Value} {L:List Hd} {l:List UInt8} (h:OwnH w base vh L) (hb:BldAt w B vb l) (hc:Chg w w' B vb):OwnH w' base vh L:=by
 have hlt:=World.ownsRow.lt h;obtain⟨⟨p,_,hB⟩,hO⟩:=hb;have h1:=X3 h hB (by decide);have h2:=Yh9 h hO (by decide);refine⟨h.1,?_⟩;rcases h.2 with h3|⟨g,cap,cur,rfl,h3,h4,h5⟩
 . exact .inl h3
 refine .inr ⟨g,cap,cur,rfl,h3,(hc.2.2 g (hlt g rfl).2 ?_ (h2 g rfl)).trans h4,h5⟩;rcases h1 with h1|h1
 . cases h1
 exact fun e=>h1 (by rw[e];rfl)
theorem BldAt.grownH {w w':World} {base B:Nat} {vh vb:Value} {L:List Hd} {l:List UInt8} (hb:BldAt w B vb l) (h:OwnH w base vh L) (hg:w.grownBy w' vh.ownBlock):BldAt w' B vb l:=by
 obtain⟨⟨p,hp,hB⟩,hO⟩:=hb;have h1:=X3 h hB (by decide);have h2:=Yh9 hO h (by decide);refine⟨⟨p,hp,hB.grown hg fun e=>?_⟩,World.ownsRow.kept hO hg ?_⟩
 . rcases h1 with h1|h1
   . rw[h1] at e;cases e
   exact h1 e.symm
 cases hv:vb.ownBlock with
 |none=>exact .inl rfl
 |some g=>exact .inr fun e=>h2 g hv e.symm
theorem YiP (w:World) (K:Nat) (u v:Value):w.grownBy ((w.setCell ⟨K,1,none⟩ u).setCell ⟨K,3,none⟩ v) (some K):=
 ⟨rfl,rfl,rfl,by simp[World.setCell],fun g _ hne=>by
  have:g ≠ K:=fun e=>hne (by rw[e])
  exact(heap_setCell_other _ _ _ _ this).trans (heap_setCell_other _ _ _ _ this)⟩
theorem BldAt.grownK {w w':World} {B K:Nat} {vb:Value} {l:List UInt8} {cs:Array Value} (hb:BldAt w B vb l) (h:Blk w K 49 cs) (hg:w.grownBy w' (some K)):BldAt w' B vb l:=by
 obtain⟨⟨p,hp,hB⟩,hO⟩:=hb;have h2:=X3 hO h (by decide);refine⟨⟨p,hp,hB.grown hg fun e=>?_⟩,World.ownsRow.kept hO hg h2⟩;simp only[Option.some.injEq] at e;subst e;have:=Yjn hB h
 revert this
 decide
theorem OwnH.keepU {w w':World} {base:Nat} {v:Value} {L:List Hd} (h:OwnH w base v L) (hk:Yny w w'):OwnH w' base v L:=by
 refine⟨h.1,?_⟩;rcases h.2 with h2|⟨g,cap,cur,rfl,h3,h4,h5⟩
 . exact .inl h2
 exact .inr ⟨g,cap,cur,rfl,h3,hk g _ cur (by decide) (by decide) h4,h5⟩
theorem Yg5 (B:Nat) (a:Option Addr) (n cap:Nat) (p:Value) (W:World) (h:Blk W B 60 #[p,.slice a n cap]) :
 Calls Tryz.prog 23 #[.pointer (some ⟨B,0,none⟩)] W fun e W'=>e=.returned (.int .i64 (n:Int))/\W=W':=by
 have c1:W.cell? ⟨B,1,none⟩=some (.slice a n cap):=h.cell 1;clear h;go_enter Tryz.func23,Tryz.ntmps23;go_wp2_with fail;go_ret;exact⟨rfl,rfl⟩
theorem Uf (Q:List Part) (c:Part):YH (Q++[c])=YH Q++Xv c:=by
 unfold YH;rw[List.flatMap_append];simp
set_option maxHeartbeats 8000000 in
theorem Ycn (D:ByteArray->ByteArray) (L:List Fl) (a:Option Addr) (cap:Nat) (lv:Nat) (hlv:lv<=9) (hL:L.length<=100000000)
 (hD:chkF L=0->∀f ∈ L,∀W,Calls Tryz.prog 24 #[.string f.2,.int .i64 (lv:Int)] W fun e w'=>e=.returned (.tuple #[.string (D f.2),.int .i64 0])/\Below W.heap.size W w')
 (w:World) (hr:FRow w a L) :
 Calls Tryz.prog 7 #[.slice a L.length cap,.int .i64 (lv:Int)] w (Ydp w (XE D L)):=by
 have CC:=Qf (fun W h=>Ydn L a cap hL W h);have HF:Hid (XE D L=if chkF L ≠ 0 then .error (chkF L) else if 262144<(Vd (YS D L 0)).length then .error 2 else .ok ⟨(Vd (YS D L 0)).toArray⟩):=rfl;obtain⟨RES,HR⟩:=Qi (XE D L);rw[HR.out] at HF ⊢;have HRo:=Qf hr;have HDf:=Qf hD;have HKo:Hid (chkF L=0->L.length<=200/\∀f ∈ L,f.2.size<=65536/\f.1.size<=64):=fun h=>⟨(KT h).1,fun f hf=>⟨(Uw L _ (KT h).2 f hf).1,JV (Uw L _ (KT h).2 f hf).2⟩⟩;obtain⟨c,Hc⟩:=Qi (chkF L);rw[Hc.out] at CC HF HDf HKo;obtain⟨M,HM⟩:=Qi (L.length);rw[HM.out] at CC HKo ⊢;have e1:decide ((lv:Int)<0)=false:=Qh (by omega);have e2:decide ((9:Int)<(lv:Int))=false:=Qh (by omega);have e2b:decide (9<lv)=false:=Qh (by omega);clear hr hD hL HR Hc;by_cases hc:c=0
 . subst hc
   obtain⟨hM,hsz⟩:=HKo.out rfl;have Hsz:=Qf hsz;have HD:=Qf (HDf.out rfl);obtain⟨P,HP⟩:=Qi (YS D L 0);rw[HP.out] at HF
   have HF2:Hid (RES=if 262144<(Vd P).length then .error 2 else .ok ⟨(Vd P).toArray⟩):=by show _=_;rw[HF.out,if_neg (by decide)]
   clear HF HKo HDf hsz;go_enter Tryz.func7,Tryz.ntmps7;go_wp2_with fail;refine(CC.out _ HRo.out).mono ?_;rintro r w1 ⟨rfl,hb1⟩;have HB1:=Qf hb1;have HR1:=Qf (HRo.out.below hb1 (Qa _));have hn0:=BldAt.new w1;have hb0:=(Below.refl w1.heap.size w1).alloc (Qa _) (.cells #[.pointer none,.slice none 0 0] 60);obtain⟨B,HB⟩:=Qi (w1.heap.size);have HN0:Hid (BldAt (w1.alloc (.cells #[.pointer none,.slice none 0 0] 60)) B (.slice none 0 0) (YH [])):=by rw[<-HB.out];exact hn0
   have HB0:=Qf hb0;have HO0:Hid (OwnH (w1.alloc (.cells #[.pointer none,.slice none 0 0] 60)) w1.heap.size (.slice none 0 0) (([]:List Part).map Part.h)):=World.ownsRow_nil _ _ _ _;have HP0:Hid ([]++YS D (L.drop 0) (YH []).length=P):=HP.out;clear hb1 hn0 hb0 CC HRo;go_upto_region 9 with fail;rw[HB.out];obtain⟨w2,HW2⟩:=Qi (w1.alloc (.cells #[.pointer none,.slice none 0 0] 60));rw[HW2.out] at HN0 HB0 HO0 ⊢;clear HW2
   go_loopw [8,29] (fun h_ j_ wq=>∃(j:Nat) (Q:List Part) (v:Value),j<=M/\Q.length=j/\j_=.int .i64 (j:Int)/\(YH Q).length<=65700*j/\Hid (Q++YS D (L.drop j) (YH Q).length=P)/\Hid (BldAt wq B v (YH Q))/\Hid (OwnH wq w1.heap.size h_ (Q.map Part.h))/\Hid (Below w1.heap.size w1 wq)/\Hid (j=0->v=.slice none 0 0)) (fun _ j _=>M-(intOf j).toNat)
   case atStart=>exact⟨0,[],_,Nat.zero_le _,rfl,rfl,Nat.zero_le _,HP0,HN0,HO0,HB0,fun _=>rfl⟩
   clear HN0 HB0 HO0 HP0;obtain⟨j,Q,v,hj,Hj,rfl,hq,HPq,HN,HO,HBl,Hv0⟩:=hrel;have HJ:=Qf Hj;clear Hj;obtain⟨oa,ocap,rfl,hrw⟩:=HO.out.view;have HRw:=Qf hrw;clear hrw;rw[List.length_map,HJ.out] at HO ⊢;by_cases hlt:j<M
   . obtain⟨dj,djb⟩:=Qj (show j<M by omega)
     have hjI:(j:Int)<(M:Int):=(by omega);have hjL:j<L.length:=(by rw[HM.out];exact hlt);obtain⟨b,off,rfl,hbl,c0,c1⟩:=(HR1.out.below HBl.out (Qa _)) j hjL;have hPq:=HPq.out;rw[List.drop_eq_getElem_cons hjL,YS] at hPq;have hsz:=Hsz.out _ (List.getElem_mem hjL);have CD:=Qf (HD.out _ (List.getElem_mem hjL));obtain⟨⟨nm,dt⟩,Hf⟩:∃R,Hid (L[j]=R):=⟨_,Qf (Eq.refl _)⟩;rw[Hf.out] at c0 c1 hPq hsz CD;dsimp only at c0 c1 hsz CD;have CR:=Qf (fun W=>YaG dt W (by unfold maxLen;omega));have hcr:=Yi8 dt.data.toList;have HPO:Hid (YQ D (nm,dt) (YH Q).length=if (D dt).size<dt.size then ⟨⟨nm,8,VH 0 dt.data.toList,((D dt).size:Int),(dt.size:Int),((YH Q).length:Int)⟩,D dt,dt⟩ else ⟨⟨nm,0,VH 0 dt.data.toList,(dt.size:Int),(dt.size:Int),((YH Q).length:Int)⟩,dt,dt⟩):=rfl;have hple:=Jb D (nm,dt) (YH Q).length;dsimp only at hple;obtain⟨pc,Hpc⟩:=Qi (YQ D (nm,dt) (YH Q).length);obtain⟨cc,Hcc⟩:=Qi (VH 0 dt.data.toList);obtain⟨d,Hd0⟩:=Qi (D dt);rw[Hpc.out] at HPO hPq hple;rw[Hcc.out] at CR hcr HPO;rw[Hd0.out] at CD HPO;obtain⟨l0,Hl0⟩:=Qi (YH Q);rw[Hl0.out] at HN hq hPq HPO;have CLn:=Qf (Ybx B v l0 (by omega));obtain⟨n0,Hn0⟩:=Qi (l0.length);rw[Hn0.out] at hq hPq HPO CLn;have HPq2:=Qf hPq;have hal:=HBl.out.alloc HBl.out.size (.cells #[.string nm,.string dt] 44);have hal0:=(Below.refl wr.heap.size wr).alloc (Qa _) (.cells #[.string nm,.string dt] 44);have HBn:=Qf (Blk.new wr 44 #[.string nm,.string dt]);have HNa:=Qf (HN.out.below hal0);have HOa:=Qf (HO.out.below hal0 (Qa _));have HBa:=Qf hal;clear hPq hal hal0 HN HO HBl HPq hjL hbl Hf;go_upto_region 11 with fail;obtain⟨F,HF0⟩:=Qi (wr.heap.size);rw[HF0.out] at HBn ⊢;obtain⟨w3,HW3⟩:=Qi (wr.alloc (.cells #[.string nm,.string dt] 44));rw[HW3.out] at HBn HNa HOa HBa ⊢;clear HW3 c0 c1
     go_cut [11,29] from 29 to 78 (fun p_ j_ wx=>∃K:Nat,p_=.pointer (some ⟨K,0,none⟩)/\j_=.int .i64 (j:Int)/\w3.heap.size<=K/\Hid (Blk wx K 49 #[.string nm,.int .i64 0,.int .u32 (cc:Int),.int .i64 (dt.size:Int),.int .i64 (dt.size:Int),.int .i64 (n0:Int)])/\Hid (Below w3.heap.size w3 wx))
     case first=>
      have HS:Hid (∀W,Below w3.heap.size w3 W->W.cell? ⟨F,0,none⟩=some (.string nm)/\W.cell? ⟨F,1,none⟩=some (.string dt)):=fun W hb=>⟨(HBn.out.below hb HBn.out.lt).cell 0,(HBn.out.below hb HBn.out.lt).cell 1⟩;have q0:w3.drew.cell? ⟨F,0,none⟩=some (.string nm):=HBn.out.cell 0;have q1:w3.drew.cell? ⟨F,1,none⟩=some (.string dt):=HBn.out.cell 1
      go_region_held3 (fun W=>W.cell? ⟨F,0,none⟩=some (.string nm)/\W.cell? ⟨F,1,none⟩=some (.string dt))
       (first|(refine HS.out _ ?_;(repeat' (first|with_reducible exact Below.refl _ _|with_reducible assumption|with_reducible apply Below.drew|with_reducible apply Yo|with_reducible apply Below.setCell|exact Qa _))))
       (first
        |(go_at_call 23;refine(CLn.out _ (HNa.out.below (by(repeat' (first|with_reducible exact Below.refl _ _|with_reducible assumption|with_reducible apply Below.drew|with_reducible apply Yo))))).mono ?_;rintro e w7 ⟨rfl,rfl⟩)
        |(go_at_call 22;refine(CR.out _).mono ?_;rintro e w8 ⟨rfl,hb8⟩;have HB8:Below w3.heap.size w3 w8:=Yk (by(repeat' (first|with_reducible exact Below.refl _ _|with_reducible assumption|with_reducible apply Below.drew|with_reducible apply Yo))) hb8;(try (have hN8:Blk w8 w3.heap.size 49 #[.string ⟨#[]⟩,.int .i64 0,.int .u32 0,.int .i64 0,.int .i64 0,.int .i64 0]:=(by first|exact Blk.below (Blk.new _ _ _) hb8 (Blk.lt (Blk.new _ _ _))|exact Blk.below (Blk.drew (Blk.new _ _ _)) hb8 (Blk.lt (Blk.drew (Blk.new _ _ _))));have m0:w8.cell? ⟨w3.heap.size,0,none⟩=some (.string ⟨#[]⟩):=hN8.cell 0;have f0:=hN8.frozen 0;have m1:w8.cell? ⟨w3.heap.size,1,none⟩=some (.int .i64 0):=hN8.cell 1;have f1:=hN8.frozen 1;have m2:w8.cell? ⟨w3.heap.size,2,none⟩=some (.int .u32 0):=hN8.cell 2;have f2:=hN8.frozen 2;have m3:w8.cell? ⟨w3.heap.size,3,none⟩=some (.int .i64 0):=hN8.cell 3;have f3:=hN8.frozen 3;have m4:w8.cell? ⟨w3.heap.size,4,none⟩=some (.int .i64 0):=hN8.cell 4;have f4:=hN8.frozen 4;have m5:w8.cell? ⟨w3.heap.size,5,none⟩=some (.int .i64 0):=hN8.cell 5;have f5:=hN8.frozen 5;have HN8:=Qf hN8;clear hN8));have hz8:=HB8.size;clear hb8))
      all_goals
       go_wp2_with fail;go_meet
       first
        |exact⟨_,rfl,rfl,hz8,Qf (Blk.new _ _ _),Qf (by(repeat' (first|with_reducible exact Below.refl _ _|with_reducible assumption|with_reducible apply Below.drew|with_reducible apply Yo|with_reducible apply Below.setCell|exact Qa _)))⟩
        |exact⟨_,rfl,rfl,Qa _,Qf (by
         have:=(((((HN8.out.set_ 0 (.string nm)).set_ 1 (.int .i64 0)).set_ 2 (.int .u32 (cc:Int))).set_ 3 (.int .i64 (dt.size:Int))).set_ 4 (.int .i64 (dt.size:Int))).set_ 5 (.int .i64 (n0:Int))
         simpa using this),Qf (by(repeat' (first|with_reducible exact Below.refl _ _|with_reducible assumption|with_reducible apply Below.drew|with_reducible apply Yo|with_reducible apply Below.setCell|exact Qa _)))⟩
     obtain⟨K,rfl,rfl,hK3,HKb,HBc⟩:=hcut
     have hKne:(Value.slice oa j ocap).ownBlock ≠ some K:=fun e=>by have:=(World.ownsRow.lt HOa.out K e).2;omega
     have HKne:=Qf hKne;have hK1:w1.heap.size<=K:=Qe HBa.out.size hK3;have HK1:=Qf hK1;have HX4:=Qf (HBn.out.below HBc.out HBn.out.lt);have HN4:=Qf (HNa.out.below HBc.out);have HO4:=Qf (HOa.out.below HBc.out (Qa _));have HB4:=Qf (Yk HBa.out HBc.out);have u0:wc.cell? ⟨F,0,none⟩=some (.string nm):=HX4.out.cell 0;have u1:wc.cell? ⟨F,1,none⟩=some (.string dt):=HX4.out.cell 1;clear HNa HOa HBa HBn HBc hKne hK3 hK1 CR CLn;go_wp2_with fail;refine(CD.out _).mono ?_;rintro e w5 ⟨rfl,hb5⟩;have HN5:=Qf (HN4.out.below hb5);have HO5:=Qf (HO4.out.below hb5 (Qa _));have HB5:=Qf (Yk HB4.out hb5);have HK5:=Qf (HKb.out.below hb5 HKb.out.lt);clear HN4 HO4 HB4 HKb HX4 u0 u1 hb5 CD;by_cases hsm:d.size<dt.size
     . obtain⟨dd,ddb⟩:=Qj (show d.size<dt.size by omega)
       have HPc:Hid (pc=⟨⟨nm,8,cc,(d.size:Int),(dt.size:Int),(n0:Int)⟩,d,dt⟩):=by show _=_;rw[HPO.out,if_pos hsm]
       have hdz:d.size<=65536:=(by omega);have v1:w5.cell? ⟨K,1,none⟩=some (.int .i64 0):=HK5.out.cell 1;have v3:w5.cell? ⟨K,3,none⟩=some (.int .i64 (dt.size:Int)):=HK5.out.cell 3;have f1:=HK5.out.frozen 1;have f3:=HK5.out.frozen 3;clear HPO;go_upto_region 16 with fail;have hx6:=YiP w5 K (.int .i64 8) (.int .i64 (d.size:Int))
       have HK6:Hid (Blk ((w5.setCell ⟨K,1,none⟩ (.int .i64 8)).setCell ⟨K,3,none⟩ (.int .i64 (d.size:Int))) K 49 #[.string nm,.int .i64 8,.int .u32 (cc:Int),.int .i64 (d.size:Int),.int .i64 (dt.size:Int),.int .i64 (n0:Int)]):=by
        have:=(HK5.out.set_ 1 (.int .i64 8)).set_ 3 (.int .i64 (d.size:Int));show Blk _ _ _ _
        simpa using this
       have HN6:=Qf (HN5.out.grownK HK5.out hx6);have HO6:Hid (OwnH ((w5.setCell ⟨K,1,none⟩ (.int .i64 8)).setCell ⟨K,3,none⟩ (.int .i64 (d.size:Int))) w1.heap.size (.slice oa j ocap) (Q.map Part.h)):=World.ownsRow.kept HO5.out hx6 (.inr HKne.out);have HB6:=Qf (HB5.out.grown hx6 HB5.out.size (fun k e=>by simp only[Option.some.injEq] at e;subst e;exact HK1.out));obtain⟨w6,HW6⟩:=Qi (((w5.setCell ⟨K,1,none⟩ (.int .i64 8)).setCell ⟨K,3,none⟩ (.int .i64 (d.size:Int))));rw[HW6.out] at HK6 HN6 HO6 HB6 ⊢;clear hx6 HW6 v1 v3 f1 f3 HN5 HO5 HB5 HK5;have CL:=Qf (fun W=>Yaq ⟨nm,8,cc,(d.size:Int),(dt.size:Int),(n0:Int)⟩ hcr (by show nm.size<=_;omega) W);have hlz:(⟨(Vj ⟨nm,8,cc,(d.size:Int),(dt.size:Int),(n0:Int)⟩).toArray⟩:ByteArray).size=30+nm.size:=Ki ⟨nm,8,cc,(d.size:Int),(dt.size:Int),(n0:Int)⟩
       have hpl:Hid (Xv pc=((⟨(Vj ⟨nm,8,cc,(d.size:Int),(dt.size:Int),(n0:Int)⟩).toArray⟩:ByteArray)++d).data.toList):=by show _=_;rw[HPc.out];unfold Xv;simp only[ByteArray.data_append,Array.toList_append]
       unfold Hd.val Hd.cells at CL;dsimp only at CL;obtain⟨lo,Hlo⟩:=Qi ((⟨(Vj ⟨nm,8,cc,(d.size:Int),(dt.size:Int),(n0:Int)⟩).toArray⟩:ByteArray));rw[Hlo.out] at CL hlz hpl;have CW:=Qf (fun (W:World) (hh:BldAt W B v l0)=>Xt B v l0 (lo++d) (by rw[ByteArray.size_append,Hn0.out];omega) W hh);have hov1:¬9223372036854775807<lo.size+d.size:=(by omega);have hov2:¬9223372036854775807<30+nm.size+d.size:=(by omega);have HLz:=Qf hlz;have k0:w6.cell? ⟨K,0,none⟩=some (.string nm):=HK6.out.cell 0;have k1:w6.cell? ⟨K,1,none⟩=some (.int .i64 8):=HK6.out.cell 1;have k2:w6.cell? ⟨K,2,none⟩=some (.int .u32 (cc:Int)):=HK6.out.cell 2;have k3:w6.cell? ⟨K,3,none⟩=some (.int .i64 (d.size:Int)):=HK6.out.cell 3;have k4:w6.cell? ⟨K,4,none⟩=some (.int .i64 (dt.size:Int)):=HK6.out.cell 4;have k5:w6.cell? ⟨K,5,none⟩=some (.int .i64 (n0:Int)):=HK6.out.cell 5
       have hos:w6.ownsRow w1.heap.size 49 6 (.slice oa j ocap) j (Vf (Q.map Part.h)):=by
        have:=HO6.out;unfold OwnH at this
        rwa [List.length_map,HJ.out] at this
       have hbsw:w1.heap.size<=w6.heap.size:=HB6.out.size;have hone:∀u ∈ ([.string nm,.int .i64 8,.int .u32 (cc:Int),.int .i64 (d.size:Int),.int .i64 (dt.size:Int),.int .i64 (n0:Int)]:List Value),u.oneCell'=true:=Ybq ⟨nm,8,cc,(d.size:Int),(dt.size:Int),(n0:Int)⟩
       go_wp2_with (first
        |(at_builtin;go_must (refine Ya _ rfl (.tmp 69) (.tmp 71) rfl Tryz.underlying50 UU rfl (by decide) w1.heap.size (.slice oa j ocap) j (Vf (Q.map Part.h)) [.string nm,.int .i64 8,.int .u32 (cc:Int),.int .i64 (d.size:Int),.int .i64 (dt.size:Int),.int .i64 (n0:Int)] hos rfl hone rfl rfl rfl ?_ ?_ hbsw ?_;(unfold maxLen;omega);omega;intro v8 w8 hown8 hg8;have HO8:Hid (OwnH w8 w1.heap.size v8 ((Q++[pc]).map Part.h)):=(by show OwnH _ _ _ _;rw[List.map_append,HPc.out];exact OwnH.snoc (by rw[List.length_map,HJ.out];exact hown8));have HN8:=Qf (HN6.out.grownH HO6.out hg8);have HB8:=Qf (HB6.out.trans (Yb hos hg8 hbsw));have hK8:=HK6.out.grown hg8 (fun e=>HKne.out e.symm);have r0:w8.cell? ⟨K,0,none⟩=some (.string nm):=hK8.cell 0;have r1:w8.cell? ⟨K,1,none⟩=some (.int .i64 8):=hK8.cell 1;have r2:w8.cell? ⟨K,2,none⟩=some (.int .u32 (cc:Int)):=hK8.cell 2;have r3:w8.cell? ⟨K,3,none⟩=some (.int .i64 (d.size:Int)):=hK8.cell 3;have r4:w8.cell? ⟨K,4,none⟩=some (.int .i64 (dt.size:Int)):=hK8.cell 4;have r5:w8.cell? ⟨K,5,none⟩=some (.int .i64 (n0:Int)):=hK8.cell 5;clear hown8 hg8 hK8 k0 k1 k2 k3 k4 k5))
        |fail)
       refine(CL.out _).mono ?_;rintro e w9 ⟨rfl,hb9⟩;have HN9:=Qf (HN8.out.below hb9);have HO9:=Qf (HO8.out.below hb9 (Qa _));have HB9:=Qf (Yk HB8.out hb9);clear hb9 HN8 HO8 HB8 CL r0 r1 r2 r3 r4 r5;go_wp2_with fail;refine(CW.out _ HN9.out).mono ?_;rintro e w10 ⟨rfl,v10,hn10,hc10,hf10⟩;have HN10:Hid (BldAt w10 B v10 (YH (Q++[pc]))):=(by show BldAt _ _ _ _;rw[Uf,Hl0.out,hpl.out];exact hn10);have HO10:=Qf (HO9.out.chg HN9.out hc10);have HB10:=Qf (hc10.below HB9.out (by rw[HB.out];exact Qa _) (fun g e=>by have:=(World.ownsRow.lt HN9.out.2 g e).1;have:=HB.out;omega));clear hn10 hc10 hf10 HN9 HO9 HB9 CW;go_wp2_with fail;go_roundw
       case rel=>
        have ez:(YH (Q++[pc])).length=n0+(Xv pc).length:=(by rw[Uf,List.length_append,Hl0.out,Hn0.out]);exact⟨j+1,Q++[pc],v10,by omega,by rw[List.length_append,HJ.out];rfl,by go_num,by rw[ez];omega,(by show _=_;rw[ez,List.append_assoc];exact HPq2.out),HN10,HO10,HB10,fun h=>by omega⟩
       simp[intOf];omega
     obtain⟨dd,ddb⟩:=Ql (show dt.size<=d.size by omega)
     have HPc:Hid (pc=⟨⟨nm,0,cc,(dt.size:Int),(dt.size:Int),(n0:Int)⟩,dt,dt⟩):=by show _=_;rw[HPO.out,if_neg hsm]
     clear HPO hsm;go_upto_region 16 with fail;have HK6:=HK5;have HN6:=HN5;have HO6:=HO5;have HB6:=HB5;clear HN5 HO5 HB5 HK5;have CL:=Qf (fun W=>Yaq ⟨nm,0,cc,(dt.size:Int),(dt.size:Int),(n0:Int)⟩ hcr (by show nm.size<=_;omega) W);have hlz:(⟨(Vj ⟨nm,0,cc,(dt.size:Int),(dt.size:Int),(n0:Int)⟩).toArray⟩:ByteArray).size=30+nm.size:=Ki ⟨nm,0,cc,(dt.size:Int),(dt.size:Int),(n0:Int)⟩
     have hpl:Hid (Xv pc=((⟨(Vj ⟨nm,0,cc,(dt.size:Int),(dt.size:Int),(n0:Int)⟩).toArray⟩:ByteArray)++dt).data.toList):=by show _=_;rw[HPc.out];unfold Xv;simp only[ByteArray.data_append,Array.toList_append]
     unfold Hd.val Hd.cells at CL;dsimp only at CL;obtain⟨lo,Hlo⟩:=Qi ((⟨(Vj ⟨nm,0,cc,(dt.size:Int),(dt.size:Int),(n0:Int)⟩).toArray⟩:ByteArray));rw[Hlo.out] at CL hlz hpl;have CW:=Qf (fun (W:World) (hh:BldAt W B v l0)=>Xt B v l0 (lo++dt) (by rw[ByteArray.size_append,Hn0.out];omega) W hh);have hov1:¬9223372036854775807<lo.size+dt.size:=(by omega);have hov2:¬9223372036854775807<30+nm.size+dt.size:=(by omega);have HLz:=Qf hlz;have k0:w5.cell? ⟨K,0,none⟩=some (.string nm):=HK6.out.cell 0;have k1:w5.cell? ⟨K,1,none⟩=some (.int .i64 0):=HK6.out.cell 1;have k2:w5.cell? ⟨K,2,none⟩=some (.int .u32 (cc:Int)):=HK6.out.cell 2;have k3:w5.cell? ⟨K,3,none⟩=some (.int .i64 (dt.size:Int)):=HK6.out.cell 3;have k4:w5.cell? ⟨K,4,none⟩=some (.int .i64 (dt.size:Int)):=HK6.out.cell 4;have k5:w5.cell? ⟨K,5,none⟩=some (.int .i64 (n0:Int)):=HK6.out.cell 5
     have hos:w5.ownsRow w1.heap.size 49 6 (.slice oa j ocap) j (Vf (Q.map Part.h)):=by
      have:=HO6.out;unfold OwnH at this
      rwa [List.length_map,HJ.out] at this
     have hbsw:w1.heap.size<=w5.heap.size:=HB6.out.size;have hone:∀u ∈ ([.string nm,.int .i64 0,.int .u32 (cc:Int),.int .i64 (dt.size:Int),.int .i64 (dt.size:Int),.int .i64 (n0:Int)]:List Value),u.oneCell'=true:=Ybq ⟨nm,0,cc,(dt.size:Int),(dt.size:Int),(n0:Int)⟩
     go_wp2_with (first
      |(at_builtin;go_must (refine Ya _ rfl (.tmp 69) (.tmp 71) rfl Tryz.underlying50 UU rfl (by decide) w1.heap.size (.slice oa j ocap) j (Vf (Q.map Part.h)) [.string nm,.int .i64 0,.int .u32 (cc:Int),.int .i64 (dt.size:Int),.int .i64 (dt.size:Int),.int .i64 (n0:Int)] hos rfl hone rfl rfl rfl ?_ ?_ hbsw ?_;(unfold maxLen;omega);omega;intro v8 w8 hown8 hg8;have HO8:Hid (OwnH w8 w1.heap.size v8 ((Q++[pc]).map Part.h)):=(by show OwnH _ _ _ _;rw[List.map_append,HPc.out];exact OwnH.snoc (by rw[List.length_map,HJ.out];exact hown8));have HN8:=Qf (HN6.out.grownH HO6.out hg8);have HB8:=Qf (HB6.out.trans (Yb hos hg8 hbsw));have hK8:=HK6.out.grown hg8 (fun e=>HKne.out e.symm);have r0:w8.cell? ⟨K,0,none⟩=some (.string nm):=hK8.cell 0;have r1:w8.cell? ⟨K,1,none⟩=some (.int .i64 0):=hK8.cell 1;have r2:w8.cell? ⟨K,2,none⟩=some (.int .u32 (cc:Int)):=hK8.cell 2;have r3:w8.cell? ⟨K,3,none⟩=some (.int .i64 (dt.size:Int)):=hK8.cell 3;have r4:w8.cell? ⟨K,4,none⟩=some (.int .i64 (dt.size:Int)):=hK8.cell 4;have r5:w8.cell? ⟨K,5,none⟩=some (.int .i64 (n0:Int)):=hK8.cell 5;clear hown8 hg8 hK8 k0 k1 k2 k3 k4 k5))
      |fail)
     refine(CL.out _).mono ?_;rintro e w9 ⟨rfl,hb9⟩;have HN9:=Qf (HN8.out.below hb9);have HO9:=Qf (HO8.out.below hb9 (Qa _));have HB9:=Qf (Yk HB8.out hb9);clear hb9 HN8 HO8 HB8 CL r0 r1 r2 r3 r4 r5;go_wp2_with fail;refine(CW.out _ HN9.out).mono ?_;rintro e w10 ⟨rfl,v10,hn10,hc10,hf10⟩;have HN10:Hid (BldAt w10 B v10 (YH (Q++[pc]))):=(by show BldAt _ _ _ _;rw[Uf,Hl0.out,hpl.out];exact hn10);have HO10:=Qf (HO9.out.chg HN9.out hc10);have HB10:=Qf (hc10.below HB9.out (by rw[HB.out];exact Qa _) (fun g e=>by have:=(World.ownsRow.lt HN9.out.2 g e).1;have:=HB.out;omega));clear hn10 hc10 hf10 HN9 HO9 HB9 CW;go_wp2_with fail;go_roundw
     case rel=>
      have ez:(YH (Q++[pc])).length=n0+(Xv pc).length:=(by rw[Uf,List.length_append,Hl0.out,Hn0.out]);exact⟨j+1,Q++[pc],v10,by omega,by rw[List.length_append,HJ.out];rfl,by go_num,by rw[ez];omega,(by show _=_;rw[ez,List.append_assoc];exact HPq2.out),HN10,HO10,HB10,fun h=>by omega⟩
     simp[intOf];omega
   obtain rfl:j=M:=by omega
   have dj:decide ((j:Int)<(j:Int))=false:=Qh (by omega)
   have hQ:Q=P:=by
    have:=HPq.out
    rwa [List.drop_of_length_le (by rw[HM.out];exact Qa _),YS,List.append_nil] at this
   have hfit:∀h ∈ P.map Part.h,h.Fit:=Ybb P 0 (by rw[<-HP.out];exact JE D L 0 Hsz.out (by rw[HM.out];omega));have hpl2:(P.map Part.h).length=j:=by rw[List.length_map,<-hQ,HJ.out]
   have hmost:=Yau (P.map Part.h) fun h hh=>(hfit h hh).2.2.2.2.2
   have hnil:YH Q ≠ []\/v=.slice none 0 0:=by
    by_cases h0:j=0
    . exact .inr (Hv0.out h0)
    left;intro e
    cases hq2:Q with
    |nil=>have:=HJ.out;rw[hq2] at this;exact h0 this.symm
    |cons q r=>
     rw[hq2] at e;have:=congrArg List.length e;rw[show YH (q::r)=Xv q++YH r from rfl,List.length_append,V6,List.length_nil] at this;omega
   have CS:=Qf (KE w1 B v (YH Q) (by omega) wr HN.out HBl.out (by rw[HB.out];exact Qa _) hnil);obtain⟨va,vcap,rfl⟩:=OwnB.slice HN.out.2
   have hwl:Hid ((⟨(YH Q).toArray⟩:ByteArray)++⟨(YJ (P.map Part.h) ((YH Q).length:Int)).toArray⟩=⟨(Vd P).toArray⟩):=by
    show _=_;unfold Vd;rw[hQ];apply ByteArray.ext;apply Array.ext';simp only[ByteArray.data_append,Array.toList_append]
   have HRg:=Qf (HO.out);rw[hQ] at HRg;have CI:=Qf (fun (W:World) (hr:HRow W oa (P.map Part.h))=>Yc8 (P.map Part.h) oa ocap ((YH Q).length:Int) (by omega) (fun h hh=>(hfit h hh).2.1) (fun h hh=>Nat.le_of_lt (Nat.lt_trans (hfit h hh).2.2.2.2.2 (by decide))) (by omega) W hr);rw[hpl2] at CI
   have hzA:(⟨(YH Q).toArray⟩:ByteArray).size=(YH Q).length:=by show(YH Q).toArray.size=_;rw[List.size_toArray]
   have hzI:(⟨(YJ (P.map Part.h) ((YH Q).length:Int)).toArray⟩:ByteArray).size=(idxH (P.map Part.h)).length+22:=by show(YJ (P.map Part.h) ((YH Q).length:Int)).toArray.size=_;rw[List.size_toArray,YZ]
   have hzW:(Vd P).length=(YH Q).length+((idxH (P.map Part.h)).length+22):=by unfold Vd;rw[List.length_append,YZ,hQ]
   obtain⟨n0,Hn0⟩:=Qi ((YH Q).length);obtain⟨A,HA⟩:=Qi ((⟨(YH Q).toArray⟩:ByteArray));rw[Hn0.out] at CI hzA hzI hzW hwl hq;obtain⟨I,HI⟩:=Qi ((⟨(YJ (P.map Part.h) (n0:Int)).toArray⟩:ByteArray));rw[HA.out] at CS hzA hwl;rw[HI.out] at CI hzI hwl
   have HF3:Hid (RES=if 262144<A.size+I.size then .error 2 else .ok (A++I)):=by show _=_;rw[HF2.out,hwl.out,hzW,hzA,hzI]
   have hAb:A.size<=20000000:=by omega
   have hIb:I.size<=20000000:=by omega
   have hov:¬9223372036854775807<A.size+I.size:=by omega
   obtain⟨oa2,ocap2,he2,hrw2⟩:=HRg.out.view;have HAl:Hid (n0=A.size):=hzA.symm;clear hQ hfit hmost hnil HPq HF2 hwl hzA hzI hzW hpl2 HI HA he2 hrw2;go_wp2_with fail;refine CS.out.mono ?_;rintro e w3 ⟨rfl,hb3,hk3,hs3,p3,hB3⟩;have HB3:=Qf hb3;have HO3:=HRg.out.keepU hk3
   have hrow3:HRow w3 oa (P.map Part.h):=by
    obtain⟨oa3,ocap3,he3,hr3⟩:=HO3.view;injection he3 with e1 _ _;rw[e1];exact hr3
   have HR3:=Qf hrow3;have CLn:=Qf (Yg5 B va (YH Q).length vcap p3 w3 hB3);rw[Hn0.out] at CLn;clear hb3 hk3 hs3 hB3 HO3 hrow3 CS;go_wp2_with fail;refine CLn.out.mono ?_;rintro e w4 ⟨rfl,rfl⟩;go_wp2_with fail;refine(CI.out _ HR3.out).mono ?_;rintro e w5 ⟨rfl,hb5⟩;have HB5:=Qf (Yk HB3.out hb5);clear hb5;by_cases hbig:262144<A.size+I.size
   . have hr:RES=.error 2:=by rw[HF3.out,if_pos hbig]
     subst hr;have t1:decide ((262144:Int)<(A.size:Int)+(I.size:Int))=true:=Qg (by omega);have t2:decide (262144<A.size+I.size)=true:=Qg (by omega);clear HF3;go_wp2_with fail;go_ret2;exact⟨Yk HB1.out HB5.out,.inl ⟨2,rfl,by decide,rfl⟩⟩
   have hr:RES=.ok (A++I):=by rw[HF3.out,if_neg hbig]
   subst hr;have t1:decide ((262144:Int)<(A.size:Int)+(I.size:Int))=false:=Qh (by omega);have t2:decide (262144<A.size+I.size)=false:=Qh (by omega);clear HF3;go_wp2_with fail;go_ret2;exact⟨Yk HB1.out HB5.out,.inr ⟨_,rfl,rfl⟩⟩
 have hr:RES=.error c:=by rw[HF.out,if_pos hc]
 subst hr;have hcI:¬(c:Int)=0:=by omega
 clear HF HDf HKo;go_enter Tryz.func7,Tryz.ntmps7;go_wp2_with fail;refine(CC.out _ HRo.out).mono ?_;rintro r w1 ⟨rfl,hb1⟩;have HB1:=Qf hb1;clear hb1;go_wp2_with fail;go_ret2;exact⟨HB1.out,.inl ⟨c,rfl,hc,rfl⟩⟩
def OwnHr (w:World) (base:Nat) (v:Value) (L:List Hd):Prop:=w.ownsRow base 42 6 v L.length (Vf L)
theorem Ygr:(Tryz.prog.info? 42).map (fun i=>(i.zero,i.size,i.bytes))=some (some (.agg #[.string ⟨#[]⟩,.int .i64 0,.int .u32 0,.int .i64 0,.int .i64 0,.int .i64 0]),6,56):=by kernel_rfl
theorem OwnHr.empty (w:World) (base:Nat) (hb:base<=w.heap.size):OwnHr (w.alloc (.cells #[] 42)) base (.slice (some ⟨w.heap.size,0,none⟩) 0 0) []:=
 ⟨rfl,.inr ⟨w.heap.size,0,#[],rfl,hb,Blk.new w _ _,Qa _,Nat.zero_le _,rfl,rfl⟩⟩
theorem OwnHr.snoc {w:World} {base:Nat} {v:Value} {L:List Hd} {h:Hd} (ho:w.ownsRow base 42 6 v (L.length+1) (Vf L++h.cells.toList)):OwnHr w base v (L++[h]):=by
 unfold OwnHr;rw[List.length_append,Kx];have e:Vf [h]=h.cells.toList:=by simp[Vf]
 rw[e];exact ho
theorem OwnHr.view {w:World} {base:Nat} {v:Value} {L:List Hd} (h:OwnHr w base v L):∃a cap,v=.slice a L.length cap/\HRow w a L:=by
 have hlt:=World.ownsRow.lt h;have hc:=fun g hg=>World.ownsRow.cells h (g:=g) hg;rcases h.2 with⟨rfl,h0⟩|⟨G,cap,cur,rfl,_⟩
 . exact⟨none,0,by rw[h0],fun k hk=>by omega⟩
 refine⟨_,_,rfl,fun k hk=>⟨G,0,rfl,(hlt G rfl).2,fun i u hu=>?_⟩⟩
 have e0:∀j,(⟨G,0,none⟩:Addr).add j=⟨G,j,none⟩:=fun j=>by unfold Addr.add;split<;>simp_all
 have:=hc G rfl (k*6+i) u (Ydc L k i u hk hu);rw[e0] at this
 rwa [Nat.zero_add]
theorem OwnHr.below {w w':World} {base B:Nat} {v:Value} {L:List Hd} (h:OwnHr w base v L) (hb:Below B w w') (hB:w.heap.size<=B):OwnHr w' base v L:=by
 have hlt:=World.ownsRow.lt h;refine⟨h.1,?_⟩;rcases h.2 with h2|⟨g,cap,cur,rfl,h3,h4,h5⟩
 . exact .inl h2
 exact .inr ⟨g,cap,cur,rfl,h3,(hb.block g (Qb (hlt g rfl).2 hB)).trans h4,h5⟩
noncomputable def XJ (s:ByteArray):Option (List Hd):=
 if s.size<YO s then none else if YJ (VR s (s.size+1) (YO s) []) (YO s:Int) ≠ (s.extract (YO s) s.size).data.toList then none else some (VR s (s.size+1) (YO s) [])
def JY (s:ByteArray) (w:World) (r:Ending) (w':World):Prop:=
 Below w.heap.size w w'/\((XJ s=none/\r=.returned (.tuple #[.slice none 0 0,.int .i64 (-1)]))\/(∃l v,XJ s=some l/\r=.returned (.tuple #[v,.int .i64 (YO s:Int)])/\OwnHr w' w.heap.size v l))
theorem Yf0 (s:ByteArray) (hs:s.size<=1000000) (w:World):Calls Tryz.prog 46 #[.string s,.int .i64 ((s.size:Int)-6),.int .i64 4] w fun e w'=>e=.returned (.int .i64 (YO s:Int))/\w=w':=by
 by_cases h:s.size<6
 . have e:YO s=0:=by unfold YO;rw[if_pos h]
   rw[e];exact Yj6 s _ 4 (by omega) w
 have e:YO s=rget s (s.size-6) 4:=by unfold YO rget;rw[if_neg h,if_neg (by omega)]
 rw[e,show(s.size:Int)-6=((s.size-6:Nat):Int) by omega];exact YeJ s (s.size-6) 4 (by decide) (by omega) (by omega) w
theorem at_w (a b c:Nat) (h:a+b=c) (ha:a<=1000000) (hb:b<=70000):IntKind.i64.wrap ((a:Int)+(b:Int))=(c:Int):=by rw[IntKind.wrap_i64];omega
theorem le46 {i i46 e s c z p k:Nat} (h1:i+46=i46) (h2:i46+k=e) (h3:e<=s) (hp:i+c=p) (hc:c+z<=46):p+z<=s:=by omega
set_option maxHeartbeats 8000000 in
theorem Ye2 (s:ByteArray) (hs:s.size<=1000000) (w:World):Calls Tryz.prog 30 #[.string s] w (JY s w):=by
 have CP:=Qf (fun W=>Yf0 s hs W);have HF:Hid (XJ s=if s.size<YO s then none else if YJ (VR s (s.size+1) (YO s) []) (YO s:Int) ≠ (s.extract (YO s) s.size).data.toList then none else some (VR s (s.size+1) (YO s) [])):=rfl;have HB0:=Qf (Below.refl w.heap.size w);unfold JY;obtain⟨RES,HR⟩:=Qi (XJ s);rw[HR.out] at HF ⊢;obtain⟨a,Ha⟩:=Qi (YO s);rw[Ha.out] at CP HF ⊢;clear HR Ha;by_cases h1:s.size<a
 . obtain⟨d1,d1b⟩:=Qj (show s.size<a by omega)
   have hr:RES=none:=by rw[HF.out,if_pos h1]
   subst hr;clear HF h1;go_enter Tryz.func30,Tryz.ntmps30;go_wp2_with fail;refine(CP.out _).mono ?_;rintro e w1 ⟨rfl,rfl⟩;go_wp2_with fail;go_ret2;exact⟨HB0.out,.inl (by first|exact⟨rfl,rfl⟩|exact⟨trivial,rfl⟩|exact rfl)⟩
 obtain⟨d1,d1b⟩:=Ql (show a<=s.size by omega);obtain⟨LR,HLR⟩:=Qi (VR s (s.size+1) a [])
 have HF2:Hid (RES=if YJ LR (a:Int) ≠ (s.extract a s.size).data.toList then none else some LR):=by show _=_;rw[HF.out,if_neg h1,HLR.out]
 have HO0:Hid (OwnHr (w.alloc (.cells #[] 42)) w.heap.size (.slice (some ⟨w.heap.size,0,none⟩) 0 0) []):=OwnHr.empty w _ (Qa _);have HBa:=Qf ((Below.refl w.heap.size w).alloc (Qa _) (.cells #[] 42));obtain⟨w1,HW1⟩:=Qi (w.alloc (.cells #[] 42));rw[HW1.out] at HO0 HBa;have has:a<=s.size:=by omega
 have CG0:=Qf (fun (p z:Nat) (hz:z<=4) (hp:p<=9000000000) (W:World)=>YeJ s p z hz (by omega) hp W);clear HF h1;go_enter Tryz.func30,Tryz.ntmps30;go_wp2_with fail;refine(CP.out _).mono ?_;rintro e w2 ⟨rfl,rfl⟩;go_wp2_with fail;rw[HW1.out];clear HW1 CP
 go_loopw [5,6,7] (fun v_ n_ i_ wq=>∃(i f:Nat) (out:List Hd),i<=s.size/\s.size<f+i/\46*out.length<=i/\n_=.int .i64 (out.length:Int)/\i_=.int .i64 (i:Int)/\Hid (VR s f i out=LR)/\Hid (∀h ∈ out,h.Fit)/\Hid (OwnHr wq w.heap.size v_ out)/\Hid (Below w.heap.size w wq)) (fun _ _ i _=>s.size-(intOf i).toNat)
 case atStart=>exact⟨a,s.size+1,[],has,by omega,Nat.zero_le _,rfl,rfl,HLR,(fun _ h=>by cases h),HO0,HBa⟩
 clear HO0 HBa HLR;obtain⟨i,f,out,his,hfi,hoi,rfl,rfl,HL,HFt,HO,HB⟩:=hrel;obtain⟨oa,ocap,rfl,hrow⟩:=HO.out.view;have HRw:=Qf hrow;obtain⟨k0,Hk0⟩:=Qi (out.length);rw[Hk0.out] at hoi HO ⊢;clear hrow;obtain⟨f,rfl⟩:∃g,f=g+1:=⟨f-1,by omega⟩;have hL:(if i+4<=s.size/\s.extract i (i+4)=⟨#[80,75,1,2]⟩/\i+46+rget s (i+28) 2<=s.size then VR s f (i+46+rget s (i+28) 2) (out++[XP s i]) else out)=LR:=HL.out;obtain⟨i4,Hi4⟩:=Qi (i+4);obtain⟨i28,Hi28⟩:=Qi (i+28);obtain⟨i46,Hi46⟩:=Qi (i+46);have hi1:i<=1000000:=Qe his hs;have v4:IntKind.i64.wrap ((i:Int)+4)=(i4:Int):=at_w i 4 i4 Hi4.out hi1 (by decide);have v28:IntKind.i64.wrap ((i:Int)+28)=(i28:Int):=at_w i 28 i28 Hi28.out hi1 (by decide);have v46:IntKind.i64.wrap ((i:Int)+46)=(i46:Int):=at_w i 46 i46 Hi46.out hi1 (by decide);have CK:=Qf (CG0.out i28 2 (by decide) (by have:=Hi28.out;omega))
 have hklt:rget s i28 2<65536:=by
  unfold rget;split
  . decide
  exact Ylx s i28
 rw[Hi4.out,Hi28.out,Hi46.out] at hL;obtain⟨k,Hk⟩:=Qi (rget s i28 2);rw[Hk.out] at CK hklt hL;obtain⟨e,He⟩:=Qi (i46+k)
 have ve:IntKind.i64.wrap ((i46:Int)+(k:Int))=(e:Int):=by
  have q46:=Hi46.out;have qe:=He.out;rw[IntKind.wrap_i64];omega
 rw[He.out] at hL;obtain⟨y,hy⟩:∃y,((s.extract i i4).toList==(⟨#[80,75,1,2]⟩:ByteArray).toList)=y:=⟨_,rfl⟩
 have hyi:y=true ↔ s.extract i i4=⟨#[80,75,1,2]⟩:=by rw[<-hy];exact bytes_eq
 have HL2:=Qf hL;have hn2:((2:Nat):Int)=2:=rfl
 have hi4I:(i:Int)<=(i4:Int):=by have:=Hi4.out;omega
 rw[hn2] at CK;clear hL HL;have hyl:((s.extract i i4).toList==[80,75,1,2])=y:=by rw[<-hy,ByteArray.toList_eq ⟨#[80,75,1,2]⟩]
 by_cases hgo:i4<=s.size/\y=true/\e<=s.size
 . obtain⟨c1,c2,c3⟩:=hgo
   have HL3:Hid (VR s f e (out++[XP s i])=LR):=by show _=_;rw[<-HL2.out,if_pos ⟨c1,hyi.1 c2,c3⟩]
   obtain⟨e1,e1b⟩:=Qk (show i4<=s.size by omega);have c1I:(i4:Int)<=(s.size:Int):=by omega
   obtain⟨e3,e3b⟩:=Qk (show e<=s.size by omega);subst c2;have CG:Hid (∀(p z:Nat),z<=4->p<=9000000000->∀W,Calls Tryz.prog 46 #[.string s,.int .i64 (p:Int),.int .i64 (z:Int)] W fun e w'=>e=.returned (.int .i64 (rget s p z:Int))/\W=w'):=CG0.out;obtain⟨i10,Hi10⟩:=Qi (i+10);obtain⟨i16,Hi16⟩:=Qi (i+16);obtain⟨i20,Hi20⟩:=Qi (i+20);obtain⟨i24,Hi24⟩:=Qi (i+24);obtain⟨i42,Hi42⟩:=Qi (i+42);have v10:IntKind.i64.wrap ((i:Int)+10)=(i10:Int):=at_w i 10 i10 Hi10.out hi1 (by decide);have v16:IntKind.i64.wrap ((i:Int)+16)=(i16:Int):=at_w i 16 i16 Hi16.out hi1 (by decide);have v20:IntKind.i64.wrap ((i:Int)+20)=(i20:Int):=at_w i 20 i20 Hi20.out hi1 (by decide);have v24:IntKind.i64.wrap ((i:Int)+24)=(i24:Int):=at_w i 24 i24 Hi24.out hi1 (by decide);have v42:IntKind.i64.wrap ((i:Int)+42)=(i42:Int):=at_w i 42 i42 Hi42.out hi1 (by decide)
   have hg:∀p z,p+z<=s.size->rget s p z=atN s p z:=fun p z h=>by unfold rget;rw[if_neg (by omega)]
   have hhd:XP s i=⟨s.extract i46 e,(rget s i10 2:Int),rget s i16 4,(rget s i20 4:Int),(rget s i24 4:Int),(rget s i42 4:Int)⟩:=by
    unfold XP;rw[hg i10 2 (le46 Hi46.out He.out c3 Hi10.out (by decide)),hg i16 4 (le46 Hi46.out He.out c3 Hi16.out (by decide)),hg i20 4 (le46 Hi46.out He.out c3 Hi20.out (by decide)),hg i24 4 (le46 Hi46.out He.out c3 Hi24.out (by decide)),hg i42 4 (le46 Hi46.out He.out c3 Hi42.out (by decide)),Hi28.out,<-hg i28 2 (le46 Hi46.out He.out c3 Hi28.out (by decide)),Hk.out,Hi46.out,He.out,Hi10.out,Hi16.out,Hi20.out,Hi24.out,Hi42.out]
   have hft:=Jn s i;have C10:=Qf (CG.out i10 2 (by decide) (Qe (Qe (Nat.le_add_right _ 2) (le46 Hi46.out He.out c3 Hi10.out (by decide))) (Qe hs (by decide))));have C16:=Qf (CG.out i16 4 (by decide) (Qe (Qe (Nat.le_add_right _ 4) (le46 Hi46.out He.out c3 Hi16.out (by decide))) (Qe hs (by decide))));have C20:=Qf (CG.out i20 4 (by decide) (Qe (Qe (Nat.le_add_right _ 4) (le46 Hi46.out He.out c3 Hi20.out (by decide))) (Qe hs (by decide))));have C24:=Qf (CG.out i24 4 (by decide) (Qe (Qe (Nat.le_add_right _ 4) (le46 Hi46.out He.out c3 Hi24.out (by decide))) (Qe hs (by decide))));have C42:=Qf (CG.out i42 4 (by decide) (Qe (Qe (Nat.le_add_right _ 4) (le46 Hi46.out He.out c3 Hi42.out (by decide))) (Qe hs (by decide))));have hn4:((4:Nat):Int)=4:=rfl;rw[hn2] at C10;rw[hn4] at C16 C20 C24 C42;rw[hhd] at hft HL3
   have hx16:IntKind.u32.wrap (rget s i16 4:Int)=(rget s i16 4:Int):=by
    have:=hft.2.1;dsimp only at this;rw[IntKind.wrap_u32];omega
   obtain⟨x10,H10⟩:=Qi (rget s i10 2);obtain⟨x16,H16⟩:=Qi (rget s i16 4);obtain⟨x20,H20⟩:=Qi (rget s i20 4);obtain⟨x24,H24⟩:=Qi (rget s i24 4);obtain⟨x42,H42⟩:=Qi (rget s i42 4);rw[H10.out,H16.out,H20.out,H24.out,H42.out] at HL3 hft;rw[H10.out] at C10;rw[H16.out] at C16 hx16;rw[H20.out] at C20;rw[H24.out] at C24;rw[H42.out] at C42;obtain⟨nm,Hnm⟩:=Qi (s.extract i46 e);rw[Hnm.out] at HL3 hft;have HFit:=Qf hft;have hie:(i46:Int)<=(e:Int):=Int.ofNat_le.2 (by rw[<-He.out];exact Nat.le_add_right _ _);have hes:(e:Int)<=(s.size:Int):=Int.ofNat_le.2 c3
   have hos:wr.drew.ownsRow w.heap.size 42 6 (.slice oa k0 ocap) k0 (Vf out):=by
    have:=HO.out;unfold OwnHr at this;rw[Hk0.out] at this;exact this.drew
   have hbsw:w.heap.size<=wr.drew.heap.size:=HB.out.size;have hone:∀u ∈ ([.string nm,.int .i64 (x10:Int),.int .u32 (x16:Int),.int .i64 (x20:Int),.int .i64 (x24:Int),.int .i64 (x42:Int)]:List Value),u.oneCell'=true:=Ybq ⟨nm,(x10:Int),x16,(x20:Int),(x24:Int),(x42:Int)⟩;have HBd:=Qf HB.out.drew;obtain⟨k46,Hk46⟩:=Qi (46+k);have ve2:IntKind.i64.wrap (46+(k:Int))=(k46:Int):=at_w 46 k k46 Hk46.out (by decide) (Qe (Nat.le_of_lt hklt) (by decide));have ve3:IntKind.i64.wrap ((i:Int)+(k46:Int))=(e:Int):=at_w i k46 e (by rw[<-Hk46.out,<-Nat.add_assoc,Hi46.out,He.out]) hi1 (by rw[<-Hk46.out];exact Qe (Nat.add_le_add_left (Nat.le_of_lt hklt) 46) (by decide));have he46:e<2000000:=Nat.lt_of_le_of_lt (Qe c3 hs) (by decide)
   have Hie:Hid (i<e/\i46<=e/\i+46<=e):=by
    have q46:=Hi46.out;have qe:=He.out;exact⟨by omega,by omega,by omega⟩
   clear HL2 hg hhd hft hyi CG Hi4 Hi28 Hi46 He Hi10 Hi16 Hi20 Hi24 Hi42 H10 H16 H20 H24 H42 HO HB hn2 hn4 Hk Hk46;go_wp2_with fail;refine(CK.out _).mono ?_;rintro r w2 ⟨rfl,rfl⟩;go_wp2_with fail;refine(CK.out _).mono ?_;rintro r w2 ⟨rfl,rfl⟩;go_upto_region 9 with fail;clear CK
   go_region_held3 (fun _=>True) (trivial)
    (first
     |(go_at_call 46;(with_reducible first|refine(C10.out _).mono ?_|refine(C16.out _).mono ?_|refine(C20.out _).mono ?_|refine(C24.out _).mono ?_|refine(C42.out _).mono ?_);rintro r w7 ⟨rfl,rfl⟩)
     |(refine KJ wr.drew rfl (.tmp 49) (.tmp 80) rfl Tryz.underlying37 Ygr rfl (by decide) w.heap.size (.slice oa k0 ocap) k0 (Vf out) [.string (s.extract i46 e),.int .i64 (x10:Int),.int .u32 (x16:Int),.int .i64 (x20:Int),.int .i64 (x24:Int),.int .i64 (x42:Int)] 1 hos rfl (by rw[Hnm.out];exact hone) rfl (sz:=wr.drew.heap.size) rfl rfl ?_ ?_ hbsw rfl ?_;(unfold maxLen;omega);omega;intro v8 w8 hown8 hg8;rw[Hnm.out] at hown8;have HO8:=Qf hown8;have HB8:=Qf (HBd.out.trans (Yb hos hg8 hbsw));clear hown8 hg8))
   all_goals
    go_wp2_with fail;go_roundw
    case rel=>exact⟨e,f,out++[⟨nm,(x10:Int),x16,(x20:Int),(x24:Int),(x42:Int)⟩],c3,by have:=Hie.out;omega,by rw[List.length_append,Hk0.out];show 46*(k0+1)<=e;have:=Hie.out;omega,(by rw[List.length_append,Hk0.out];rfl),rfl,HL3,(fun h hh=>by
     rw[List.mem_append,List.mem_singleton] at hh;rcases hh with hh|rfl
     . exact HFt.out h hh
     exact HFit.out),OwnHr.snoc (by rw[Hk0.out];exact HO8.out),HB8⟩
    have:=Hie.out;simp[intOf];omega
 have hnot:(decide ((i4:Int)<=(s.size:Int))=false/\decide (i4<=s.size)=false)\/((decide ((i4:Int)<=(s.size:Int))=true/\decide (i4<=s.size)=true/\(i4:Int)<=(s.size:Int))/\(y=false\/(y=true/\decide ((e:Int)<=(s.size:Int))=false/\decide (e<=s.size)=false))):=by
  by_cases c1:i4<=s.size
  . refine .inr ⟨⟨by rw[decide_eq_true_eq];exact Int.ofNat_le.2 c1,decide_eq_true c1,Int.ofNat_le.2 c1⟩,?_⟩
    cases y with
    |false=>exact .inl rfl
    |true=>
     have c3:¬e<=s.size:=fun c3=>hgo ⟨c1,rfl,c3⟩;exact .inr ⟨rfl,by rw[decide_eq_false_iff_not];exact fun h=>c3 (Int.ofNat_le.1 h),decide_eq_false c3⟩
  exact .inl ⟨by rw[decide_eq_false_iff_not];exact fun h=>c1 (Int.ofNat_le.1 h),decide_eq_false c1⟩
 have hlr:LR=out:=by
  rw[<-HL2.out,if_neg];rintro ⟨c1,c2,c3⟩;exact hgo ⟨c1,hyi.2 c2,c3⟩
 have hmost:=Yau out fun h hh=>(HFt.out h hh).2.2.2.2.2;have hft:=HFt.out;have hk0:=Hk0.out;have CI:=Qf (fun (W:World) (hr:HRow W oa out)=>Yf5 out oa ocap (a:Int) (by omega) (fun h hh=>(hft h hh).2.1) (fun h hh=>Nat.le_of_lt (Nat.lt_trans (hft h hh).2.2.2.2.2 (by decide))) (by omega) W hr);rw[Hk0.out] at CI
 have HF3:Hid (RES=if YJ out (a:Int) ≠ (s.extract a s.size).data.toList then none else some out):=by show _=_;rw[HF2.out,hlr]
 have hidx:YJ out (a:Int)=(⟨(YJ out (a:Int)).toArray⟩:ByteArray).data.toList:=rfl;rw[hidx] at HF3;obtain⟨IX,HIX⟩:=Qi ((⟨(YJ out (a:Int)).toArray⟩:ByteArray));rw[HIX.out] at HF3 CI;obtain⟨z,hz⟩:∃y,(IX.toList==(s.extract a s.size).toList)=y:=⟨_,rfl⟩
 have HR4:Hid (RES=if z=false then none else some out):=by
  show _=_;rw[HF3.out,<-hz,ByteArray.toList_eq,ByteArray.toList_eq];by_cases hh:IX.data.toList=(s.extract a s.size).data.toList
  . have e1:(IX.data.toList==(s.extract a s.size).data.toList)=true:=by rw[hh];simp
    rw[if_neg (fun g=>g hh),e1,if_neg (c:=true=false) (by decide)]
  have e1:(IX.data.toList==(s.extract a s.size).data.toList)=false:=by simpa using hh
  rw[if_pos hh,e1,if_pos rfl]
 have hasI:(a:Int)<=(s.size:Int):=Int.ofNat_le.2 has;clear hgo hlr hmost hft hk0 HF2 HF3 hidx HIX HL2 hyi Hi4 Hi28 Hi46 He Hk HFt
 cases z with
 |false=>
  have hr:RES=none:=HR4.out;subst hr;clear HR4;rcases hnot with⟨d4,d4b⟩|⟨⟨d4,d4b,d4I⟩,rfl|⟨rfl,d5,d5b⟩⟩
  all_goals
   first
    |(
     go_upto_region 12 with fail
     go_region_held3 (fun _=>True) (trivial)
      (first
       |(go_at_call 47;refine(CI.out _ (HRw.out.below (B:=wr.heap.size) (by(repeat' (first|with_reducible exact Below.refl _ _|with_reducible assumption|with_reducible apply Below.drew|with_reducible apply Yo))) (Qa _))).mono ?_;rintro r w8 ⟨rfl,hb8⟩;have HB8:Below wr.heap.size wr w8:=Yk (by(repeat' (first|with_reducible exact Below.refl _ _|with_reducible assumption|with_reducible apply Below.drew|with_reducible apply Yo))) hb8;clear hb8)))
    |(
     go_wp2_with fail;refine(CK.out _).mono ?_;rintro r w2 ⟨rfl,rfl⟩;go_upto_region 12 with fail
     go_region_held3 (fun _=>True) (trivial)
      (first
       |(go_at_call 47;refine(CI.out _ (HRw.out.below (B:=wr.heap.size) (by(repeat' (first|with_reducible exact Below.refl _ _|with_reducible assumption|with_reducible apply Below.drew|with_reducible apply Yo))) (Qa _))).mono ?_;rintro r w8 ⟨rfl,hb8⟩;have HB8:Below wr.heap.size wr w8:=Yk (by(repeat' (first|with_reducible exact Below.refl _ _|with_reducible assumption|with_reducible apply Below.drew|with_reducible apply Yo))) hb8;clear hb8)))
   all_goals
    go_wp2_with fail;go_ret2
    first|exact⟨Yk HB.out HB8,rfl⟩|exact⟨Yk HB.out HB8,.inl ⟨rfl,rfl⟩⟩|exact⟨Yk HB.out HB8,.inl rfl⟩
 |true=>
  have hr:RES=some out:=HR4.out;subst hr;clear HR4;rcases hnot with⟨d4,d4b⟩|⟨⟨d4,d4b,d4I⟩,rfl|⟨rfl,d5,d5b⟩⟩
  all_goals
   first
    |(
     go_upto_region 12 with fail
     go_region_held3 (fun _=>True) (trivial)
      (first
       |(go_at_call 47;refine(CI.out _ (HRw.out.below (B:=wr.heap.size) (by(repeat' (first|with_reducible exact Below.refl _ _|with_reducible assumption|with_reducible apply Below.drew|with_reducible apply Yo))) (Qa _))).mono ?_;rintro r w8 ⟨rfl,hb8⟩;have HB8:Below wr.heap.size wr w8:=Yk (by(repeat' (first|with_reducible exact Below.refl _ _|with_reducible assumption|with_reducible apply Below.drew|with_reducible apply Yo))) hb8;clear hb8)))
    |(
     go_wp2_with fail;refine(CK.out _).mono ?_;rintro r w2 ⟨rfl,rfl⟩;go_upto_region 12 with fail
     go_region_held3 (fun _=>True) (trivial)
      (first
       |(go_at_call 47;refine(CI.out _ (HRw.out.below (B:=wr.heap.size) (by(repeat' (first|with_reducible exact Below.refl _ _|with_reducible assumption|with_reducible apply Below.drew|with_reducible apply Yo))) (Qa _))).mono ?_;rintro r w8 ⟨rfl,hb8⟩;have HB8:Below wr.heap.size wr w8:=Yk (by(repeat' (first|with_reducible exact Below.refl _ _|with_reducible assumption|with_reducible apply Below.drew|with_reducible apply Yo))) hb8;clear hb8)))
   all_goals
    go_wp2_with fail;go_ret2
    first|exact⟨Yk HB.out HB8,.inr ⟨out,_,rfl,rfl,HO.out.below HB8 (Qa _)⟩⟩|exact⟨Yk HB.out HB8,out,_,rfl,rfl,HO.out.below HB8 (Qa _)⟩
def Ybz (w:World) (res:Except Nat (List Hd)) (r:Ending) (w':World):Prop:=
 Below w.heap.size w w'/\((∃e:Nat,res=.error e/\r=.returned (.tuple #[.slice none 0 0,.int .i64 (e:Int)]))\/(∃l v,res=.ok l/\r=.returned (.tuple #[v,.int .i64 0])/\OwnHr w' w.heap.size v l))
theorem JC (s:ByteArray):Yv s=if 262144<s.size then .error 2 else match XJ s with|none=>.error 3|some l=>if !Vx ⟨#[]⟩ l then .error 4 else if 200<l.length then .error 2 else .ok l:=by
 rw[<-Yf6];unfold Yaj XJ;by_cases h1:262144<s.size
 . rw[if_pos h1,if_pos h1]
 rw[if_neg h1,if_neg h1];by_cases h2:s.size<YO s
 . rw[if_pos h2,if_pos h2]
 rw[if_neg h2,if_neg h2];by_cases h3:YJ (VR s (s.size+1) (YO s) []) (YO s:Int) ≠ (s.extract (YO s) s.size).data.toList
 . rw[if_pos h3,if_pos h3]
 rw[if_neg h3,if_neg h3]
theorem YkA (l:List UInt8):Op.bytesLess l []=false:=by cases l<;>rfl
theorem Yfe {nm:ByteArray} (h:nmB nm=true):Xy nm ⟨#[]⟩=false:=by
 classical
 have hk:nmOK nm:=by
  by_cases hk:nmOK nm
  . exact hk
  have:nmB nm=false:=by unfold nmB;exact decide_eq_false hk
  rw[this] at h;cases h
 unfold Xy;have e:(⟨#[]⟩:ByteArray).toList=[]:=by rw[ByteArray.toList_eq]
 rw[e,YkA,Bool.false_or,ByteArray.toList_eq]
 cases hh:nm.data.toList with
 |nil=>
  have:nm.data.toList.length=nm.size:=by simp
  rw[hh] at this;exact absurd this.symm hk.1
 |cons _ _=>rfl
set_option maxHeartbeats 8000000 in
theorem Ya7 (s:ByteArray) (hs:s.size<=maxLen) (w:World):Calls Tryz.prog 15 #[.string s] w (Ybz w (Yv s)):=by
 unfold maxLen at hs;have HF:=Qf (JC s);have HB0:=Qf (Below.refl w.heap.size w);unfold Ybz;obtain⟨RES,HR⟩:=Qi (Yv s);rw[HR.out] at HF ⊢;clear HR;by_cases h1:262144<s.size
 . have d1:decide ((262144:Int)<(s.size:Int))=true:=Qg (by omega)
   have d1b:decide (262144<s.size)=true:=Qg (by omega);have hr:RES=.error 2:=by rw[HF.out,if_pos h1]
   subst hr;clear HF;go_enter Tryz.func15,Tryz.ntmps15;go_wp2_with fail;go_ret2;exact⟨HB0.out,.inl ⟨2,rfl,rfl⟩⟩
 have d1:decide ((262144:Int)<(s.size:Int))=false:=Qh (by omega);have d1b:decide (262144<s.size)=false:=Qh (by omega);have CL:=Qf (fun W=>Ye2 s (by omega) W)
 have HFit:Hid (∀l,XJ s=some l->∀h ∈ l,h.Fit):=fun l h=>by
  unfold XJ at h;split at h
  . cases h
  split at h
  . cases h
  injection h with h;subst h;exact Ya6 s _ _ [] (fun _ hx=>by cases hx)
 have HLen:Hid (∀l,XJ s=some l->l.length<=100000):=fun l h=>by
  unfold XJ at h;split at h
  . cases h
  split at h
  . cases h
  next h3=>
  injection h with h;have e:YJ (VR s (s.size+1) (YO s) []) (YO s:Int)=(s.extract (YO s) s.size).data.toList:=Classical.byContradiction fun g=>h3 g;have e2:=congrArg List.length e;rw[YZ,VO,List.length_take,List.length_drop] at e2;have hl:s.data.toList.length=s.size:=by simp
  have:=Yd4 (VR s (s.size+1) (YO s) []);rw[<-h];omega
 have HF2:Hid (RES=match XJ s with|none=>.error 3|some l=>if !Vx ⟨#[]⟩ l then .error 4 else if 200<l.length then .error 2 else .ok l):=by show _=_;rw[HF.out,if_neg h1]
 unfold JY at CL;obtain⟨RL,HRL⟩:=Qi (XJ s);rw[HRL.out] at CL HFit HLen HF2;obtain⟨a,Ha⟩:=Qi (YO s);rw[Ha.out] at CL;clear HF HRL Ha;go_enter Tryz.func15,Tryz.ntmps15;go_wp2_with fail;refine(CL.out _).mono ?_;rintro e w1 ⟨hb1,⟨rfl,rfl⟩|⟨l,v,rfl,rfl,hv⟩⟩
 . have hr:RES=.error 3:=HF2.out
   subst hr;have HB1:=Qf hb1;clear HF2 hb1;go_wp2_with fail;go_ret2;exact⟨HB1.out,.inl ⟨3,rfl,rfl⟩⟩
 have hft:=HFit.out l rfl;have hlen:=HLen.out l rfl;have HF3:Hid (RES=if !Vx ⟨#[]⟩ l then .error 4 else if 200<l.length then .error 2 else .ok l):=HF2.out;have Hft:=Qf hft;obtain⟨oa,ocap,rfl,hrow⟩:=hv.view;have HRw:=Qf hrow;have HO1:=Qf hv;have HB1:=Qf hb1;have HZ:=Qf (Below.refl w1.heap.size w1);obtain⟨k,Hk⟩:=Qi (l.length);rw[Hk.out] at HF3 hlen HO1 ⊢;have HR5:Hid (RES=if !Vx ⟨#[]⟩ (l.drop 0) then .error 4 else if 200<k then .error 2 else .ok l):=HF3.out;have da:decide ((a:Int)<0)=false:=Qh (by omega);clear HF2 HF3 HFit HLen hft hrow hv hb1;go_wp2_with fail;clear da
 go_loopw [20] (fun j_ wq=>∃(j:Nat) (last:ByteArray),j<=k/\j_=.int .i64 (j:Int)/\Hid (j=0->last=⟨#[]⟩)/\Hid (∀i,j=i+1->∃h,l[i]?=some h/\h.name=last)/\Hid (RES=if !Vx last (l.drop j) then .error 4 else if 200<k then .error 2 else .ok l)/\Hid (Below w1.heap.size w1 wq)) (fun j _=>k-(intOf j).toNat)
 case atStart=>exact⟨0,⟨#[]⟩,Nat.zero_le _,rfl,(fun _=>rfl),(fun i h=>by cases h),HR5,HZ⟩
 clear HR5 HZ;obtain⟨j,last,hj,rfl,HL0,HL1,HC,HBl⟩:=hrel;by_cases hlt:j<k
 . obtain⟨dj,djb⟩:=Qj (show j<k by omega)
   have hjI:(j:Int)<(k:Int):=by omega
   have hjL:j<l.length:=by rw[Hk.out];exact hlt
   obtain⟨b,off,rfl,hbl,hcl⟩:=HRw.out j hjL;have hC:=HC.out;rw[List.drop_eq_getElem_cons hjL] at hC;have hsz:=(Hft.out _ (List.getElem_mem hjL)).2.2.2.2.2;have HNx:Hid (∃h,l[j]?=some h/\h=l[j]):=⟨l[j],List.getElem?_eq_getElem hjL,rfl⟩;obtain⟨h,Hh⟩:=Qi (l[j]);rw[Hh.out] at hcl hC hsz HNx;obtain⟨nm,me,cr,pk,sz,pl⟩:=h;unfold Hd.cells at hcl;dsimp only at hcl hsz;have kc:∀i v,(#[.string nm,.int .i64 me,.int .u32 (cr:Int),.int .i64 pk,.int .i64 sz,.int .i64 pl]:Array Value)[i]?=some v->wr.cell? ⟨b,off+j*6+i,none⟩=some v:=fun i v hv=>(HBl.out.cell (p:=⟨b,off+j*6+i,none⟩) hbl).trans (hcl i v hv);have k0:=kc 0 _ rfl;have k1:=kc 1 _ rfl;have k2:=kc 2 _ rfl;have k3:=kc 3 _ rfl;have k4:=kc 4 _ rfl;have k5:=kc 5 _ rfl;simp only[Nat.add_zero] at k0;have HC2:Hid (RES=if (!(if (!nmB nm||Xy nm last)=true then false else Vx nm (l.drop (j+1))))=true then .error 4 else if 200<k then .error 2 else .ok l):=hC;have CN:=Qf (fun W=>Yai nm (by unfold maxLen;omega) W);have HFl:Hid (nmB nm=true->Xy nm ⟨#[]⟩=false):=fun h=>Yfe h;obtain⟨nb,Hnb⟩:=Qi (nmB nm);rw[Hnb.out] at CN HC2 HFl;obtain⟨x,hx⟩:∃R,Op.bytesLess nm.toList last.toList=R:=⟨_,rfl⟩;obtain⟨y,hy⟩:∃R,(nm.toList==last.toList)=R:=⟨_,rfl⟩;have hxy:Xy nm last=(x||y):=by unfold Xy;rw[hx,hy]
   have HBn:=Qf (Blk.new wr 42 #[.string nm,.int .i64 me,.int .u32 (cr:Int),.int .i64 pk,.int .i64 sz,.int .i64 pl]);have HBa:=Qf (HBl.out.alloc HBl.out.size (.cells #[.string nm,.int .i64 me,.int .u32 (cr:Int),.int .i64 pk,.int .i64 sz,.int .i64 pl] 42));have hb0:=(Below.refl wr.heap.size wr).alloc (Qa _) (.cells #[.string nm,.int .i64 me,.int .u32 (cr:Int),.int .i64 pk,.int .i64 sz,.int .i64 pl] 42)
   have hprev:∀i,j=i+1->wr.cell? ⟨b,off+i*6,none⟩=some (.string last):=fun i hi=>by
    obtain⟨hp,e1,e2⟩:=HL1.out i hi;have hi2:i<l.length:=(by omega);obtain⟨b',off',ea,hbl',hcl'⟩:=HRw.out i hi2;simp only[Option.some.injEq,Addr.mk.injEq] at ea;obtain⟨rfl,rfl,_⟩:=ea;rw[List.getElem?_eq_getElem hi2] at e1;simp only[Option.some.injEq] at e1;have:=(HBl.out.cell (p:=⟨b,off+i*6,none⟩) hbl').trans (hcl' 0 _ rfl);rw[this,e1,<-e2];rfl
   have hblr:b<wr.heap.size:=Qb hbl HBl.out.size;have hprev2:∀i,j=i+1->(wr.alloc (.cells #[.string nm,.int .i64 me,.int .u32 (cr:Int),.int .i64 pk,.int .i64 sz,.int .i64 pl] 42)).cell? ⟨b,off+i*6,none⟩=some (.string last):=fun i hi=>(hb0.cell (p:=⟨b,off+i*6,none⟩) hblr).trans (hprev i hi);have HPv:=Qf hprev2;clear hC HC hjL hbl Hh hcl hsz kc hprev hprev2 hblr hb0;go_upto_region 9 with fail;obtain⟨G,HG⟩:=Qi (wr.heap.size);rw[HG.out] at HBn ⊢;obtain⟨w2,HW2⟩:=Qi (wr.alloc (.cells #[.string nm,.int .i64 me,.int .u32 (cr:Int),.int .i64 pk,.int .i64 sz,.int .i64 pl] 42));rw[HW2.out] at HBn HBa HPv ⊢;clear HW2 k0 k1 k2 k3 k4 k5;have k0:w2.cell? ⟨G,0,none⟩=some (.string nm):=HBn.out.cell 0
   cases nb with
   |false=>
    have hr:RES=.error 4:=(by rw[HC2.out];rfl);subst hr;clear HC2 HFl HPv HL0 HL1 HNx hxy
    go_quiet ((go_at_call 18;exact Calls.quiet_of_same ((CN.out _).mono fun _ _ ⟨h1,h2⟩=>⟨h1,h2.symm⟩)))
    all_goals
     go_wp2_with fail;go_ret2;exact⟨Yk HB1.out (Yh HBa.out _),.inl ⟨4,rfl,rfl⟩⟩
   |true=>
    by_cases hj0:j=0
    . have hl0:=HL0.out hj0
      have hsf:Xy nm last=false:=by rw[hl0];exact HFl.out rfl
      have HC5:Hid (RES=if !Vx nm (l.drop (j+1)) then .error 4 else if 200<k then .error 2 else .ok l):=by show _=_;rw[HC2.out,hsf];rfl
      have e0:decide ((0:Int)<(j:Int))=false:=Qh (by omega);have e0b:decide (0<j)=false:=Qh (by omega);clear HC2 HFl HPv HL0 HL1 hxy hx hy hl0 hsf hj0
      go_quiet ((go_at_call 18;exact Calls.quiet_of_same ((CN.out _).mono fun _ _ ⟨h1,h2⟩=>⟨h1,h2.symm⟩)))
      all_goals
       go_wp2_with fail;go_roundw
       case rel=>exact⟨j+1,nm,by omega,by go_num,(fun h=>by omega),(fun i h=>by
        obtain⟨hh,e1,e2⟩:=HNx.out;have:i=j:=(by omega);subst this
        exact⟨hh,e1,by rw[e2]⟩),HC5,Qf (Yh HBa.out _)⟩
       simp[intOf];omega
    obtain⟨i1,hi1⟩:∃i1,j=i1+1:=⟨j-1,by omega⟩;have c1:=HPv.out i1 hi1;have e0:decide ((0:Int)<(j:Int))=true:=Qg (by omega);have e0b:decide (0<j)=true:=Qg (by omega);have ew:IntKind.i64.wrap ((j:Int)-1)=(i1:Int):=(by rw[IntKind.wrap_i64];omega);have ei:(i1:Int)<(k:Int):=(by omega);have Hi1:=Qf hi1;rw[hxy] at HC2;clear hi1 HPv HL0 HL1 HFl hj0 hxy;by_cases hv:(x||y)=true
    . have hr:RES=.error 4:=by rw[HC2.out,hv];rfl
      subst hr;clear HC2;cases x<;>cases y<;>simp at hv
      all_goals
       go_quiet ((go_at_call 18;exact Calls.quiet_of_same ((CN.out _).mono fun _ _ ⟨h1,h2⟩=>⟨h1,h2.symm⟩)))
       all_goals
        go_wp2_with fail;go_ret2;exact⟨Yk HB1.out (Yh HBa.out _),.inl ⟨4,rfl,rfl⟩⟩
    have hx2:x=false:=(by cases x<;>simp_all);have hy2:y=false:=(by cases y<;>simp_all);subst hx2 hy2;have HC5:Hid (RES=if !Vx nm (l.drop (j+1)) then .error 4 else if 200<k then .error 2 else .ok l):=HC2.out;clear HC2 hv
    go_quiet ((go_at_call 18;exact Calls.quiet_of_same ((CN.out _).mono fun _ _ ⟨h1,h2⟩=>⟨h1,h2.symm⟩)))
    all_goals
     go_wp2_with fail;go_roundw
     case rel=>exact⟨j+1,nm,by omega,by go_num,(fun h=>by omega),(fun i h=>by
      obtain⟨hh,e1,e2⟩:=HNx.out;have:i=j:=(by omega);subst this
      exact⟨hh,e1,by rw[e2]⟩),HC5,Qf (Yh HBa.out _)⟩
     simp[intOf];omega
 obtain rfl:j=k:=by omega
 have dj:decide ((j:Int)<(j:Int))=false:=Qh (by omega);have hC:=HC.out;rw[List.drop_of_length_le (by rw[Hk.out];exact Qa _)] at hC;have HC2:Hid (RES=if 200<j then .error 2 else .ok l):=hC;have HO9:=Qf (HO1.out.below HBl.out (Qa _));clear hC HC HL0 HL1;by_cases h200:200<j
 . have d9:decide ((200:Int)<(j:Int))=true:=Qg (by omega)
   have d9b:decide (200<j)=true:=Qg (by omega);have hr:RES=.error 2:=by rw[HC2.out,if_pos h200]
   subst hr;clear HC2;go_wp2_with fail;go_ret2;exact⟨Yk HB1.out HBl.out,.inl ⟨2,rfl,rfl⟩⟩
 have d9:decide ((200:Int)<(j:Int))=false:=Qh (by omega);have d9b:decide (200<j)=false:=Qh (by omega);have hr:RES=.ok l:=by rw[HC2.out,if_neg h200]
 subst hr;clear HC2;go_wp2_with fail;go_ret2;exact⟨Yk HB1.out HBl.out,.inr ⟨l,_,rfl,rfl,HO9.out⟩⟩
def Yk8 (w:World) (res:Except Nat (List Fl)) (r:Ending) (w':World):Prop:=
 Below w.heap.size w w'/\((∃e:Nat,res=.error e/\e ≠ 0/\r=.returned (.tuple #[.slice none 0 0,.int .i64 (e:Int)]))\/(∃l v,res=.ok l/\r=.returned (.tuple #[v,.int .i64 0])/\OwnFl w' w.heap.size v l))
theorem YeR {w:World} {base base' e n z:Nat} {v:Value} {xs:List Value} (h:w.ownsRow base e z v n xs) (hb:base'<=base):w.ownsRow base' e z v n xs:=by
 refine⟨h.1,?_⟩;rcases h.2 with h2|⟨g,cap,cur,rfl,h3,h4⟩
 . exact .inl h2
 exact .inr ⟨g,cap,cur,rfl,Qe hb h3,h4⟩
def YhU (fr:Nat):Except Nat (List Fl × Nat)->Except Nat (List Fl)
 |.error e=>.error e
 |.ok (out,p)=>if p ≠ fr then .error 3 else .ok out
theorem YcK {s:ByteArray} {e:Nat} (h:Yv s=.error e):V9 s=.error e:=by unfold V9;rw[h]
theorem YeM {s:ByteArray} {l:List Hd} (h:Yv s=.ok l):V9 s=YhU (atN s (s.size-22+16) 4) (Xm s l 0 []):=by
 unfold V9;rw[h];dsimp only;cases Xm s l 0 []<;>rfl
theorem Ybp {s:ByteArray} {e:Nat} (h:Yv s=.error e):e ≠ 0:=by
 unfold Yv at h
 repeat' split at h
 all_goals (cases h<;>decide)
theorem Ybe {s:ByteArray} {g:Hd} {x:ByteArray} {p k:Nat} (h:Xn s g=.ok x) (hp:g.place=(p:Int)) (hk:g.packed=(k:Int)):p+30+g.name.size+k<=s.size:=by
 obtain⟨h1,h2,q,h3,h4,h5⟩:=Ykm h;rw[hp,Int.toNat_natCast] at h3 h5;have:=congrArg List.length h3;have hl:s.data.toList.length=s.size:=by simp
 rw[List.length_drop,List.length_append,VS,hl] at this;omega
set_option maxHeartbeats 8000000 in
theorem YeL (s:ByteArray) (hs:s.size<=100000) (w:World) :
 Calls Tryz.prog 13 #[.string s] w (Yk8 w (V9 s)):=by
 have CH:=Qf (fun W=>Ydb s (by omega) W);have HFE:Hid (∀e,Yv s=.error e->V9 s=.error e):=fun e h=>YcK h;have HFO:Hid (∀l,Yv s=.ok l->V9 s=YhU (atN s (s.size-22+16) 4) (Xm s l 0 [])):=fun l h=>YeM h;obtain⟨RES,HR⟩:=Qi (V9 s);have HHE:Hid (∀e,Yv s=.error e->e ≠ 0):=fun e h=>Ybp h
 have HHO:Hid (∀l,Yv s=.ok l->(∀x ∈ l,x.Fit)/\l.length<=200/\22<=s.size):=fun l h=>by
  obtain⟨_,h2,_,h4,p,h5,_⟩:=XO h;refine⟨h2,h4,?_⟩;have hl:s.data.toList.length=s.size:=by simp
  rw[<-hl,h5,List.length_append,YZ];omega
 obtain⟨HS,HHS⟩:=Qi (Yv s);rw[HHS.out] at CH HFE HFO HHE HHO;rw[HR.out] at HFE HFO ⊢;clear HR HHS;go_enter Tryz.func13,Tryz.ntmps13;go_wp2_with fail;refine(CH.out _).mono ?_;rintro r w1 ⟨hb1,⟨e,rfl,rfl⟩|⟨l,v,rfl,rfl,hv⟩⟩
 . have he:=HHE.out e rfl
   have heI:¬(e:Int)=0:=by omega
   have hr:RES=.error e:=HFE.out e rfl;subst hr;have HB1:=Qf hb1;clear hb1 HFE HFO HHE HHO CH;go_wp2_with fail;go_ret2;exact⟨HB1.out,.inl ⟨e,rfl,he,rfl⟩⟩
 obtain⟨hfit,hlen,hs22⟩:=HHO.out l rfl;have Hfit:=Qf hfit;have HB1:=Qf hb1;obtain⟨a,cap,rfl,hrow⟩:=hv.view;have HRw:=Qf hrow;obtain⟨e,he⟩:∃e,s.size=e+22:=⟨s.size-22,by omega⟩;have hes:s.size-22=e:=by omega
 obtain⟨LR,HLR⟩:=Qi (Xm s (l.drop 0) 0 [])
 have HF2:Hid (RES=YhU (atN s (e+16) 4) LR):=by
  show _=_;rw[HFO.out l rfl,<-HLR.out,hes];rfl
 have C16:=Qf (fun W=>Yfr s (e+16) 4 (by decide) (by omega) (by omega) W);have hc16:((e+16:Nat):Int)=(e:Int)+16:=by omega
 have hn4:((4:Nat):Int)=4:=rfl;rw[hc16,hn4] at C16;have hfrlt:=YaL s (e+16) 4 (by decide);obtain⟨fr,Hfr⟩:=Qi (atN s (e+16) 4);rw[Hfr.out] at C16 HF2 hfrlt;have heI:(s.size:Int)-22=(e:Int):=by omega
 have HE:=Qf he;have HeI:=Qf heI;obtain⟨M,HM⟩:=Qi (l.length);rw[HM.out] at hlen ⊢;have HO0:Hid (OwnFl w1 w1.heap.size (.slice none 0 0) []):=World.ownsRow_nil _ _ _ _;have HZ:=Qf (Below.refl w1.heap.size w1);have hw1:w.heap.size<=w1.heap.size:=hb1.size;have Hw1:=Qf hw1;clear hb1 HFE HFO HHE HHO CH hfit hrow hv hc16 hn4 he hes hs22 hw1 heI Hfr;go_wp2_with fail
 go_loopw [6,7,22] (fun v_ p_ j_ wq=>∃(j p:Nat) (out:List Fl),j<=M/\p<=s.size/\out.length=j/\j_=.int .i64 (j:Int)/\p_=.int .i64 (p:Int)/\Hid (Xm s (l.drop j) p out=LR)/\Hid (OwnFl wq w1.heap.size v_ out)/\Hid (Below w1.heap.size w1 wq)) (fun _ _ j _=>M-(intOf j).toNat)
 case atStart=>exact⟨0,0,[],Nat.zero_le _,Nat.zero_le _,rfl,rfl,rfl,HLR,HO0,HZ⟩
 clear HLR HO0 HZ;obtain⟨j,p,out,hj,hps,Hj,rfl,rfl,HL,HO,HBl⟩:=hrel;have HJ:=Qf Hj;clear Hj;obtain⟨oa,ocap,rfl,-⟩:=HO.out.view;rw[HJ.out] at HO ⊢;by_cases hlt:j<M
 . obtain⟨dj,djb⟩:=Qj (show j<M by omega)
   have hjI:(j:Int)<(M:Int):=by omega
   have hjL:j<l.length:=by rw[HM.out];exact hlt
   obtain⟨b,off,rfl,hbl,hcl⟩:=(HRw.out.below HBl.out (Qa _)) j hjL;have hL:=HL.out;rw[List.drop_eq_getElem_cons hjL,Xm] at hL;have hft:=Hfit.out _ (List.getElem_mem hjL);obtain⟨h,Hh⟩:=Qi (l[j]);rw[Hh.out] at hcl hL hft;obtain⟨f1,f2,f3,f4,f5,f6⟩:=hft;have CO:=Qf (fun W=>YeT s h hs f2 (by omega) W);have HOE:Hid (∀x,Xn s h=.ok x->∀p k:Nat,h.place=(p:Int)->h.packed=(k:Int)->p+30+h.name.size+k<=s.size):=fun x hx p k h1 h2=>Ybe hx h1 h2;obtain⟨OR,HOR⟩:=Qi (Xn s h);rw[HOR.out] at CO HOE hL;have HL2:=Qf hL;obtain⟨nm,me,cr,pk,sz,pl⟩:=h;obtain⟨kk,rfl⟩:∃k:Nat,pk=(k:Int):=⟨pk.toNat,by dsimp only at f3;omega⟩;obtain⟨pp,rfl⟩:∃k:Nat,pl=(k:Int):=⟨pl.toNat,by dsimp only at f5;omega⟩;unfold Hd.val Hd.cells at CO;unfold Hd.cells at hcl;dsimp only at hcl CO HOE HL2 f2 f6 f3 f5;have hkb:kk<=4294967296:=by omega
   have hpb:pp<=4294967296:=by omega
   have k0:=hcl 0 _ rfl;have k1:=hcl 1 _ rfl;have k2:=hcl 2 _ rfl;have k3:=hcl 3 _ rfl;have k4:=hcl 4 _ rfl;have k5:=hcl 5 _ rfl;simp only[Nat.add_zero] at k0;have hal:=HBl.out.alloc HBl.out.size (.cells #[.string nm,.int .i64 me,.int .u32 (cr:Int),.int .i64 (kk:Int),.int .i64 sz,.int .i64 (pp:Int)] 49);have hbn:=Blk.new wr 49 #[.string nm,.int .i64 me,.int .u32 (cr:Int),.int .i64 (kk:Int),.int .i64 sz,.int .i64 (pp:Int)];have HOa:=Qf (HO.out.below (B:=wr.heap.size) ((Below.refl wr.heap.size wr).alloc (Qa _) (.cells #[.string nm,.int .i64 me,.int .u32 (cr:Int),.int .i64 (kk:Int),.int .i64 sz,.int .i64 (pp:Int)] 49)) (Qa _));have HBa:=Qf hal;have HBn:=Qf hbn;clear hL HL hal hbn hjL hbl Hh hcl f1 f3 f4 f5 HO;go_upto_region 9 with fail;obtain⟨G,HG⟩:=Qi (wr.heap.size);rw[HG.out] at HBn ⊢;obtain⟨w2,HW2⟩:=Qi (wr.alloc (.cells #[.string nm,.int .i64 me,.int .u32 (cr:Int),.int .i64 (kk:Int),.int .i64 sz,.int .i64 (pp:Int)] 49));rw[HW2.out] at HBn HBa HOa ⊢;clear HW2 k0 k1 k2 k3 k4 k5;have k0:w2.cell? ⟨G,0,none⟩=some (.string nm):=HBn.out.cell 0;have k1:w2.cell? ⟨G,1,none⟩=some (.int .i64 me):=HBn.out.cell 1;have k2:w2.cell? ⟨G,2,none⟩=some (.int .u32 (cr:Int)):=HBn.out.cell 2;have k3:w2.cell? ⟨G,3,none⟩=some (.int .i64 (kk:Int)):=HBn.out.cell 3;have k4:w2.cell? ⟨G,4,none⟩=some (.int .i64 sz):=HBn.out.cell 4;have k5:w2.cell? ⟨G,5,none⟩=some (.int .i64 (pp:Int)):=HBn.out.cell 5;go_wp2_with fail;refine(CO.out _).mono ?_;rintro r w3 ⟨hb3,⟨er,rfl,hen,rfl⟩|⟨x,rfl,rfl⟩⟩
   . have heI:¬(er:Int)=0:=by omega
     have hr:RES=.error er:=(by rw[HF2.out,<-HL2.out];rfl);subst hr;have HB3:=Qf (Yk HBa.out hb3);clear hb3 HF2 HL2 k0 k1 k2 k3 k4 k5 HOE;go_wp2_with fail;go_ret2;exact⟨Yk HB1.out HB3.out,.inl ⟨er,rfl,hen,rfl⟩⟩
   have HB3:=Qf (Yk HBa.out hb3);have HX3:=Qf (HBn.out.below hb3 HBn.out.lt);have HO3:=Qf (HOa.out.below hb3 (Qa _));have q0:w3.cell? ⟨G,0,none⟩=some (.string nm):=HX3.out.cell 0;have q3:w3.cell? ⟨G,3,none⟩=some (.int .i64 (kk:Int)):=HX3.out.cell 3;have q5:w3.cell? ⟨G,5,none⟩=some (.int .i64 (pp:Int)):=HX3.out.cell 5;have HL3:Hid ((if ((pp:Nat):Int) ≠ (p:Int) then .error 3 else Xm s (l.drop (j+1)) (p+30+nm.size+kk) (out++[(nm,x)]))=LR):=HL2.out;have hfs:=HOE.out x rfl pp kk rfl rfl;clear hb3 HL2 k0 k1 k2 k3 k4 k5 HOE HBn HOa HBa;by_cases hpp:pp=p
   . have HL4:Hid (Xm s (l.drop (j+1)) (p+30+nm.size+kk) (out++[(nm,x)])=LR):=by show _=_;rw[<-HL3.out,if_neg (by omega)]
     subst hpp;have hos:=HO3.out;unfold OwnFl at hos;rw[HJ.out] at hos;have hbsw:w1.heap.size<=w3.heap.size:=HB3.out.size;have hone:=Yfd nm x
     have hne:(Value.slice oa j ocap).ownBlock ≠ some G:=by
      rcases X3 hos HX3.out (by decide) with h|h
      . rw[h];simp
      exact h
     have Hne:=Qf hne;clear HL3 hne
     go_wp2_with (first
      |(at_builtin;go_must (refine Ya _ rfl (.tmp 43) (.tmp 48) rfl Tryz.underlying22 Yc7 rfl (by decide) w1.heap.size (.slice oa j ocap) j (VD out) [.string nm,.string x] hos rfl hone rfl rfl rfl ?_ ?_ hbsw ?_;(unfold maxLen;omega);omega;intro v8 w8 hown8 hg8;have HO8:=Qf hown8;have HB8:=Qf (HB3.out.trans (Yb hos hg8 hbsw));have hX8:=HX3.out.grown hg8 (fun e=>Hne.out e.symm);have n0:w8.cell? ⟨G,0,none⟩=some (.string nm):=hX8.cell 0;have n3:w8.cell? ⟨G,3,none⟩=some (.int .i64 (kk:Int)):=hX8.cell 3;clear hown8 hg8 hX8))
      |fail)
     go_roundw
     case rel=>exact⟨j+1,pp+30+nm.size+kk,out++[(nm,x)],by omega,hfs,by rw[List.length_append,HJ.out];rfl,by go_num,by go_num,HL4,OwnFl.snoc (by rw[HJ.out];exact HO8.out),HB8⟩
     simp[intOf];omega
   have hr:RES=.error 3:=by rw[HF2.out,<-HL3.out,if_pos (by omega)];rfl
   subst hr;have hpI:¬(pp:Int)=(p:Int):=by omega
   have hpb2:((pp:Int)==(p:Int))=false:=by rw[beq_eq_false_iff_ne];omega
   clear HF2 HL3;go_wp2_with fail;go_ret2;exact⟨Yk HB1.out HB3.out,.inl ⟨3,rfl,by decide,rfl⟩⟩
 obtain rfl:j=M:=by omega
 have dj:decide ((j:Int)<(j:Int))=false:=Qh (by omega);have hlr:LR=.ok (out,p):=by rw[<-HL.out,List.drop_of_length_le (by rw[HM.out];exact Qa _),Xm]
 have HF3:Hid (RES=if p ≠ fr then .error 3 else .ok out):=by show _=_;rw[HF2.out,hlr];rfl
 have HO9:Hid (OwnFl wr w.heap.size (.slice oa j ocap) out):=YeR HO.out Hw1.out;have heI:=HeI.out;clear HF2 hlr HL HO;by_cases hpf:p=fr
 . have hr:RES=.ok out:=by rw[HF3.out,if_neg (fun g=>g hpf)]
   subst hr;have hpI:(p:Int)=(fr:Int):=by omega
   have hpb:((p:Int)==(fr:Int))=true:=by rw[beq_iff_eq];omega
   clear HF3;go_wp2_with fail;refine(C16.out _).mono ?_;rintro r w9 ⟨rfl,rfl⟩;go_wp2_with fail;go_ret2;exact⟨Yk HB1.out HBl.out,.inr ⟨out,_,rfl,rfl,HO9.out⟩⟩
 have hr:RES=.error 3:=by rw[HF3.out,if_pos hpf]
 subst hr;have hpI:¬(p:Int)=(fr:Int):=by omega
 have hpb:((p:Int)==(fr:Int))=false:=by rw[beq_eq_false_iff_ne];omega
 clear HF3;go_wp2_with fail;refine(C16.out _).mono ?_;rintro r w9 ⟨rfl,rfl⟩;go_wp2_with fail;go_ret2;exact⟨Yk HB1.out HBl.out,.inl ⟨3,rfl,by decide,rfl⟩⟩
def Yjv (w:World) (res:Except Nat (List Fl)) (r:Ending) (w':World):Prop:=
 Below w.heap.size w w'/\((∃e:Nat,res=.error e/\e ≠ 0/\r=.returned (.tuple #[.slice none 0 0,.int .i64 (e:Int)]))\/(∃l v,res=.ok l/\r=.returned (.tuple #[v,.int .i64 0])/\OwnFr w' w.heap.size v l))
theorem Ygu {s:ByteArray} {l:List Hd} (h:Yv s=.ok l):XJ s=some l:=by
 rw[JC] at h;by_cases h1:262144<s.size
 . rw[if_pos h1] at h;cases h
 rw[if_neg h1] at h
 cases hR:XJ s with
 |none=>rw[hR] at h;cases h
 |some m=>
  rw[hR] at h;dsimp only at h;split at h
  . cases h
  split at h
  . cases h
  injection h with h;rw[h]
theorem Yh8 {w:World} {base base':Nat} {v:Value} {L:List Fl} (h:OwnFr w base v L) (hb:base'<=base):OwnFr w base' v L:=YeR h hb
theorem Yi1 (w:World):OwnFr (w.alloc (.cells #[] 70)) w.heap.size (.slice (some ⟨w.heap.size,0,none⟩) 0 0) []:=OwnFr.empty w _ (Qa _)
set_option maxHeartbeats 8000000 in
theorem YhK (s:ByteArray) (hs:s.size<=100000) (hsk:s.size<=12500\/∀l,Yv s=.ok l->∀h ∈ l,h.packed<=12500) (w:World) :
 Calls Tryz.prog 14 #[.string s] w (Yjv w (V9 s)):=by
 have CH:=Qf (fun W=>Ya7 s (by unfold maxLen;omega) W);have CLs:=Qf (fun W=>Ye2 s (by omega) W);have HFE:Hid (∀e,Yv s=.error e->V9 s=.error e):=fun e h=>YcK h
 have HFO:Hid (∀l,Yv s=.ok l->V9 s=YhU (YO s) (Xm s l 0 [])):=fun l h=>by
  have h22:22<=s.size:=by
   obtain⟨_,_,_,_,p,h5,_⟩:=XO h;have hl:s.data.toList.length=s.size:=by simp
   rw[<-hl,h5,List.length_append,YZ];omega
  have e:YO s=atN s (s.size-22+16) 4:=by unfold YO;rw[if_neg (by omega),show s.size-22+16=s.size-6 by omega]
  rw[e];exact YeM h
 obtain⟨RES,HR⟩:=Qi (V9 s);have HHE:Hid (∀e,Yv s=.error e->e ≠ 0):=fun e h=>Ybp h
 have HHO:Hid (∀l,Yv s=.ok l->(∀x ∈ l,x.Fit)/\l.length<=200/\XJ s=some l/\(s.size<=12500\/∀h ∈ l,h.packed<=12500)):=fun l h=>by
  obtain⟨_,h2,_,h4,p,h5,_⟩:=XO h;exact⟨h2,h4,Ygu h,hsk.imp id fun g=>g l h⟩
 obtain⟨HS,HHS⟩:=Qi (Yv s);rw[HHS.out] at CH HFE HFO HHE HHO;rw[HR.out] at HFE HFO ⊢;obtain⟨pl0,Hpl0⟩:=Qi (YO s);rw[Hpl0.out] at HFO;unfold JY at CLs;rw[Hpl0.out] at CLs;clear HR HHS hsk Hpl0;go_enter Tryz.func14,Tryz.ntmps14;go_wp2_with fail;refine(CH.out _).mono ?_;rintro r w1 ⟨hb1,⟨e,rfl,rfl⟩|⟨l,v,rfl,rfl,hv⟩⟩
 . have he:=HHE.out e rfl
   have heI:¬(e:Int)=0:=by omega
   have hr:RES=.error e:=HFE.out e rfl;subst hr;have HB1:=Qf hb1;clear hb1 HFE HFO HHE HHO CH CLs;go_wp2_with fail;go_ret2;exact⟨HB1.out,.inl ⟨e,rfl,he,rfl⟩⟩
 obtain⟨hfit,hlen,hrl,hk12⟩:=HHO.out l rfl;have Hfit:=Qf hfit;have HB1:=Qf hb1;have Hk12:=Qf hk12;obtain⟨a,cap,rfl,hrow⟩:=hv.view;have HRw:=Qf hrow;obtain⟨LR,HLR⟩:=Qi (Xm s (l.drop 0) 0 [])
 have HF2:Hid (RES=YhU pl0 LR):=by
  show _=_;rw[HFO.out l rfl,<-HLR.out];rfl
 have CL2:Hid (∀W,Calls Tryz.prog 30 #[.string s] W fun r w'=>Below W.heap.size W w'/\∃v,r=.returned (.tuple #[v,.int .i64 (pl0:Int)])):=fun W=>by
  refine(CLs.out W).mono ?_;rintro r w' ⟨hb,⟨hn,_⟩|⟨l2,v,_,he,_⟩⟩
  . rw[hrl] at hn;cases hn
  exact⟨hb,v,he⟩
 obtain⟨M,HM⟩:=Qi (l.length);rw[HM.out] at hlen ⊢;clear hb1 HFE HFO HHE HHO CH hfit hrow hv hrl CLs hk12;go_wp2_with fail;refine(CL2.out _).mono ?_;rintro r w0 ⟨hb0,lv,rfl⟩;have HB0:=Qf (Yk HB1.out hb0);have HRw0:=Qf (HRw.out.below hb0 (Qa _));have HO0:Hid (OwnFr (w0.alloc (.cells #[] 70)) w0.heap.size (.slice (some ⟨w0.heap.size,0,none⟩) 0 0) []):=Yi1 w0;have HZ:=Qf ((Below.refl w0.heap.size w0).alloc (Qa _) (.cells #[] 70));have hw0:w.heap.size<=w0.heap.size:=HB0.out.size;have Hw0:=Qf hw0;obtain⟨w3,HW3⟩:=Qi (w0.alloc (.cells #[] 70));rw[HW3.out] at HO0 HZ;clear hb0 HRw HB1 hw0 CL2;go_wp2_with fail;rw[HW3.out];clear HW3
 go_loopw [8,9,30] (fun v_ p_ j_ wq=>∃(j p:Nat) (out:List Fl),j<=M/\p<=s.size/\out.length=j/\j_=.int .i64 (j:Int)/\p_=.int .i64 (p:Int)/\Hid (Xm s (l.drop j) p out=LR)/\Hid (OwnFr wq w0.heap.size v_ out)/\Hid (Below w0.heap.size w0 wq)) (fun _ _ j _=>M-(intOf j).toNat)
 case atStart=>exact⟨0,0,[],Nat.zero_le _,Nat.zero_le _,rfl,rfl,rfl,HLR,HO0,HZ⟩
 clear HLR HO0 HZ;obtain⟨j,p,out,hj,hps,Hj,rfl,rfl,HL,HO,HBl⟩:=hrel;have HJ:=Qf Hj;clear Hj;obtain⟨oa,ocap,rfl,-⟩:=HO.out.view;rw[HJ.out] at HO ⊢;by_cases hlt:j<M
 . obtain⟨dj,djb⟩:=Qj (show j<M by omega)
   have hjI:(j:Int)<(M:Int):=by omega
   have hjL:j<l.length:=by rw[HM.out];exact hlt
   obtain⟨b,off,rfl,hbl,hcl⟩:=(HRw0.out.below HBl.out (Qa _)) j hjL;have hL:=HL.out;rw[List.drop_eq_getElem_cons hjL,Xm] at hL;have hft:=Hfit.out _ (List.getElem_mem hjL);have hk1:s.size<=12500\/(l[j]).packed<=12500:=Hk12.out.imp id fun g=>g _ (List.getElem_mem hjL);obtain⟨h,Hh⟩:=Qi (l[j]);rw[Hh.out] at hcl hL hft hk1;obtain⟨f1,f2,f3,f4,f5,f6⟩:=hft;have CO:=Qf (fun W=>YcH s h hs hk1 f2 (by omega) W);have HOE:Hid (∀x,Xn s h=.ok x->∀p k:Nat,h.place=(p:Int)->h.packed=(k:Int)->p+30+h.name.size+k<=s.size):=fun x hx p k h1 h2=>Ybe hx h1 h2;obtain⟨OR,HOR⟩:=Qi (Xn s h);rw[HOR.out] at CO HOE hL;have HL2:=Qf hL;obtain⟨nm,me,cr,pk,sz,pl⟩:=h;obtain⟨kk,rfl⟩:∃k:Nat,pk=(k:Int):=⟨pk.toNat,by dsimp only at f3;omega⟩;obtain⟨pp,rfl⟩:∃k:Nat,pl=(k:Int):=⟨pl.toNat,by dsimp only at f5;omega⟩;unfold Hd.val Hd.cells at CO;unfold Hd.cells at hcl;dsimp only at hcl CO HOE HL2 f2 f6 f3 f5;have hkb:kk<=4294967296:=by omega
   have hpb:pp<=4294967296:=by omega
   have k0:=hcl 0 _ rfl;have k1:=hcl 1 _ rfl;have k2:=hcl 2 _ rfl;have k3:=hcl 3 _ rfl;have k4:=hcl 4 _ rfl;have k5:=hcl 5 _ rfl;simp only[Nat.add_zero] at k0;have hal:=HBl.out.alloc HBl.out.size (.cells #[.string nm,.int .i64 me,.int .u32 (cr:Int),.int .i64 (kk:Int),.int .i64 sz,.int .i64 (pp:Int)] 42);have hbn:=Blk.new wr 42 #[.string nm,.int .i64 me,.int .u32 (cr:Int),.int .i64 (kk:Int),.int .i64 sz,.int .i64 (pp:Int)];have HOa:=Qf (HO.out.below (B:=wr.heap.size) ((Below.refl wr.heap.size wr).alloc (Qa _) (.cells #[.string nm,.int .i64 me,.int .u32 (cr:Int),.int .i64 (kk:Int),.int .i64 sz,.int .i64 (pp:Int)] 42)) (Qa _));have HBa:=Qf hal;have HBn:=Qf hbn;clear hL HL hal hbn hjL hbl Hh hcl f1 f3 f4 f5 HO hk1;go_upto_region 10 with fail;obtain⟨G,HG⟩:=Qi (wr.heap.size);rw[HG.out] at HBn ⊢;obtain⟨w2,HW2⟩:=Qi (wr.alloc (.cells #[.string nm,.int .i64 me,.int .u32 (cr:Int),.int .i64 (kk:Int),.int .i64 sz,.int .i64 (pp:Int)] 42));rw[HW2.out] at HBn HBa HOa ⊢;clear HW2 k0 k1 k2 k3 k4 k5;have k0:w2.cell? ⟨G,0,none⟩=some (.string nm):=HBn.out.cell 0;have k1:w2.cell? ⟨G,1,none⟩=some (.int .i64 me):=HBn.out.cell 1;have k2:w2.cell? ⟨G,2,none⟩=some (.int .u32 (cr:Int)):=HBn.out.cell 2;have k3:w2.cell? ⟨G,3,none⟩=some (.int .i64 (kk:Int)):=HBn.out.cell 3;have k4:w2.cell? ⟨G,4,none⟩=some (.int .i64 sz):=HBn.out.cell 4;have k5:w2.cell? ⟨G,5,none⟩=some (.int .i64 (pp:Int)):=HBn.out.cell 5;go_wp2_with fail;refine(CO.out _).mono ?_;rintro r w4 ⟨hb3,⟨er,rfl,hen,rfl⟩|⟨x,rfl,rfl⟩⟩
   . have heI:¬(er:Int)=0:=by omega
     have hr:RES=.error er:=(by rw[HF2.out,<-HL2.out];rfl);subst hr;have HB3:=Qf (Yk HBa.out hb3);clear hb3 HF2 HL2 k0 k1 k2 k3 k4 k5 HOE;go_wp2_with fail;go_ret2;exact⟨Yk HB0.out HB3.out,.inl ⟨er,rfl,hen,rfl⟩⟩
   have HB3:=Qf (Yk HBa.out hb3);have HX3:=Qf (HBn.out.below hb3 HBn.out.lt);have HO3:=Qf (HOa.out.below hb3 (Qa _));have q0:w4.cell? ⟨G,0,none⟩=some (.string nm):=HX3.out.cell 0;have q3:w4.cell? ⟨G,3,none⟩=some (.int .i64 (kk:Int)):=HX3.out.cell 3;have q5:w4.cell? ⟨G,5,none⟩=some (.int .i64 (pp:Int)):=HX3.out.cell 5;have HL3:Hid ((if ((pp:Nat):Int) ≠ (p:Int) then .error 3 else Xm s (l.drop (j+1)) (p+30+nm.size+kk) (out++[(nm,x)]))=LR):=HL2.out;have hfs:=HOE.out x rfl pp kk rfl rfl;clear hb3 HL2 k0 k1 k2 k3 k4 k5 HOE HBn HOa HBa;by_cases hpp:pp=p
   . have HL4:Hid (Xm s (l.drop (j+1)) (p+30+nm.size+kk) (out++[(nm,x)])=LR):=by show _=_;rw[<-HL3.out,if_neg (by omega)]
     subst hpp;have hos:=HO3.out;unfold OwnFr at hos;rw[HJ.out] at hos;have hbsw:w0.heap.size<=w4.heap.size:=HB3.out.size;have hone:=Yfd nm x
     have hne:(Value.slice oa j ocap).ownBlock ≠ some G:=by
      rcases X3 hos HX3.out (by decide) with h|h
      . rw[h];simp
      exact h
     have Hne:=Qf hne;clear HL3 hne
     go_wp2_with (first
      |(at_builtin;go_must (refine Ya _ rfl (.tmp 47) (.tmp 52) rfl Tryz.underlying28 Ybi rfl (by decide) w0.heap.size (.slice oa j ocap) j (VD out) [.string nm,.string x] hos rfl hone rfl rfl rfl ?_ ?_ hbsw ?_;(unfold maxLen;omega);omega;intro v8 w8 hown8 hg8;have HO8:=Qf hown8;have HB8:=Qf (HB3.out.trans (Yb hos hg8 hbsw));have hX8:=HX3.out.grown hg8 (fun e=>Hne.out e.symm);have n0:w8.cell? ⟨G,0,none⟩=some (.string nm):=hX8.cell 0;have n3:w8.cell? ⟨G,3,none⟩=some (.int .i64 (kk:Int)):=hX8.cell 3;have n5:w8.cell? ⟨G,5,none⟩=some (.int .i64 (pp:Int)):=hX8.cell 5;clear hown8 hg8 hX8))
      |fail)
     go_roundw
     case rel=>exact⟨j+1,pp+30+nm.size+kk,out++[(nm,x)],by omega,hfs,by rw[List.length_append,HJ.out];rfl,by go_num,by go_num,HL4,OwnFr.snoc (by rw[HJ.out];exact HO8.out),HB8⟩
     simp[intOf];omega
   have hr:RES=.error 3:=by rw[HF2.out,<-HL3.out,if_pos (by omega)];rfl
   subst hr;have hpI:¬(pp:Int)=(p:Int):=by omega
   have hpb2:((pp:Int)==(p:Int))=false:=by rw[beq_eq_false_iff_ne];omega
   clear HF2 HL3;go_wp2_with fail;go_ret2;exact⟨Yk HB0.out HB3.out,.inl ⟨3,rfl,by decide,rfl⟩⟩
 obtain rfl:j=M:=by omega
 have dj:decide ((j:Int)<(j:Int))=false:=Qh (by omega);have hlr:LR=.ok (out,p):=by rw[<-HL.out,List.drop_of_length_le (by rw[HM.out];exact Qa _),Xm]
 have HF3:Hid (RES=if p ≠ pl0 then .error 3 else .ok out):=by show _=_;rw[HF2.out,hlr];rfl
 have HO9:Hid (OwnFr wr w.heap.size (.slice oa j ocap) out):=Yh8 HO.out Hw0.out;clear HF2 hlr HL HO;by_cases hpf:p=pl0
 . have hr:RES=.ok out:=by rw[HF3.out,if_neg (fun g=>g hpf)]
   subst hr;have hpI:(p:Int)=(pl0:Int):=by omega
   have hpb:((p:Int)==(pl0:Int))=true:=by rw[beq_iff_eq];omega
   clear HF3;go_wp2_with fail;go_ret2;exact⟨Yk HB0.out HBl.out,.inr ⟨out,_,rfl,rfl,HO9.out⟩⟩
 have hr:RES=.error 3:=by rw[HF3.out,if_pos hpf]
 subst hr;have hpI:¬(p:Int)=(pl0:Int):=by omega
 have hpb:((p:Int)==(pl0:Int))=false:=by rw[beq_eq_false_iff_ne];omega
 clear HF3;go_wp2_with fail;go_ret2;exact⟨Yk HB0.out HBl.out,.inl ⟨3,rfl,by decide,rfl⟩⟩
def KeepT (W W':World):Prop:=∀B t cs,t ≠ 121->t ≠ 5->Blk W B t cs->Blk W' B t cs
theorem KeepT.trans {W W1 W2:World} (h:KeepT W W1) (k:KeepT W1 W2):KeepT W W2:=fun B t cs h1 h2 h3=>k B t cs h1 h2 (h B t cs h1 h2 h3)
theorem KeepT.below {W W':World} (h:Below W.heap.size W W'):KeepT W W':=fun _ _ _ _ _ h3=>h3.below h h3.lt
theorem YnD {w:World} {A P t u:Nat} {cs ds:Array Value} (h:Blk w A t cs) (k:Blk w P u ds) (hne:t ≠ u):A ≠ P:=by
 rintro rfl;have h1:w.heap[A]?=some (.cells cs t):=h;have h2:w.heap[A]?=some (.cells ds u):=k;rw[h1] at h2;simp only[Option.some.injEq,Obj.cells.injEq] at h2;exact hne h2.2.1
theorem Ynb {w:World} {b e s n A t:Nat} {v:Value} {x:List Value} {cs:Array Value} (h:w.ownsRow b e s v n x) (hB:Blk w A t cs) (hne:e ≠ t):v.ownBlock ≠ some A:=by
 rcases KX h hB hne with e|e
 . rw[e];simp
 exact e
theorem Yh0 {W W':World} {P V c:Nat} {v:Value} (hS:SinkAt W P v V c) (hc:Chg W W' P v):KeepT W W':=fun A _ _ h1 h2 h3=>
 (hc.2.2 A h3.lt (YnD h3 hS.1 h1) (Ynb hS.2.1 h3 (Ne.symm h2))).trans h3
theorem YlV (X:Nat) (d:Nat):∀m,rev X (m+d)/2^d=rev X m:=by
 induction d with
 |zero=>intro m;simp
 |succ d ih=>
  intro m;have e:rev X (m+(d+1))=2*rev X (m+d)+X/2^(m+d)%2:=rfl;have e2:(2:Nat)^(d+1)=2*2^d:=by rw[Nat.pow_succ,Nat.mul_comm]
  rw[e,e2,<-Nat.div_div_eq_div_mul,show(2*rev X (m+d)+X/2^(m+d)%2)/2=rev X (m+d) by omega];exact ih m
theorem Yih {F L:Nat->Nat} {In:Nat->Prop} {X nb s t:Nat} (hs:In s) (ht:L s=t) (h1:1<=t) (hn:t<=nb) (hF:F s=rev X t):NextOut F L In X nb 0 s 0 t:=by
 refine⟨h1,fun m a b=>⟨by omega,s,hs,⟨by omega,?_⟩,by omega⟩,.inr (.inr ⟨by omega,hs,ht,hF,rfl⟩)⟩;obtain⟨d,rfl⟩:∃d,t=m+d:=⟨t-m,by omega⟩;rw[hF,ht,show m+d-m=d by omega,YlV]
theorem Yhy {L:Nat->Nat} {c:Nat} (h15:∀i,i<c->L i<=15) {σ:Sg} {s t:Nat} (hs:s<c) (ht:L s=t) (h1:1<=t) (hn:t<=σ.n) (hF:YD L c s=rev σ.X t):symM L c σ=.ok (s,⟨σ.X/2^t,σ.n-t,σ.out⟩):=
 Yhx h15 (Yih ⟨hs,by omega⟩ ht h1 hn hF)
theorem YnI:∀i,i<288->lens fixL i<=15:=Jg _ _ Yd8
theorem Yno:∀i,i<32->lens (fun _=>5) i<=15:=Jg _ _ fun _=>by decide
theorem YmC (σ:Sg):fitM fixL 288 σ=.ok ((),σ):=by
 unfold fitM VN;rw[if_pos (by decide +kernel)]
theorem YkK (σ:Sg):fitM (fun _=>5) 32 σ=.ok ((),σ):=by
 unfold fitM VN;rw[if_pos (by decide +kernel)]
theorem YdA (most:Nat) (σ:Sg):Vc fixL 288 (fun _=>5) 32 most σ=tokM (lens fixL) 288 (lens fun _=>5) 32 most (σ.n+1) σ []:=by
 unfold Vc;rw[YmC,Yj,YkK,Yj]
def encV:List (Nat × Nat)->Nat
 |[]=>0
 |x::r=>x.1%2^x.2+2^x.2*encV r
def encN:List (Nat × Nat)->Nat
 |[]=>0
 |x::r=>x.2+encN r
theorem Y0 (a b:List (Nat × Nat)):encN (a++b)=encN a+encN b:=by
 induction a with
 |nil=>simp[encN]
 |cons x r ih=>simp only[List.cons_append,encN,ih];omega
theorem YkP (a b:List (Nat × Nat)):encV (a++b)=encV a+2^encN a*encV b:=by
 induction a with
 |nil=>simp[encV,encN]
 |cons x r ih=>simp only[List.cons_append,encV,encN,ih,Nat.mul_add,Nat.pow_add,Nat.mul_assoc,Nat.add_assoc]
theorem YmG (a:List (Nat × Nat)):encV a<2^encN a:=by
 induction a with
 |nil=>decide
 |cons x r ih=>
  simp only[encV,encN,Nat.pow_add];have h1:x.1%2^x.2<2^x.2:=Nat.mod_lt _ (YY _);have h2:=Nat.mul_le_mul_left (2^x.2) (show encV r+1<=2^encN r from ih);rw[Nat.mul_add,Nat.mul_one] at h2;omega
theorem Ydj (a:List (Nat × Nat)) (x k:Nat):encV (a++[(x,k)])=encV a+x%2^k*2^encN a:=by
 rw[YkP];simp only[encV,Nat.mul_zero,Nat.add_zero];rw[Nat.mul_comm]
theorem Vq (a:List (Nat × Nat)) (x k:Nat):encN (a++[(x,k)])=encN a+k:=by
 rw[Y0];rfl
def rd (l:List (Nat × Nat)) (Y m out:Nat):Sg:=⟨encV l+2^encN l*Y,encN l+m,out⟩
theorem YhW (x k:Nat) (l:List (Nat × Nat)) (Y m out:Nat):rd ((x,k)::l) Y m out=⟨x%2^k+2^k*(encV l+2^encN l*Y),k+(encN l+m),out⟩:=by
 unfold rd;simp only[encV,encN,Nat.pow_add,Nat.mul_add,Nat.mul_assoc,Nat.add_assoc]
theorem YhV (l:List (Nat × Nat)) (Y m out:Nat):(rd l Y m out).out=out:=rfl
theorem rd_n (l:List (Nat × Nat)) (Y m out:Nat):(rd l Y m out).n=encN l+m:=rfl
theorem Ye9 (x k Z:Nat):(x%2^k+2^k*Z)/2^k=Z:=by
 rw[Nat.add_mul_div_left _ _ (YY k),Nat.div_eq_of_lt (Nat.mod_lt _ (YY k)),Nat.zero_add]
theorem Ye8 (x k Z:Nat):(x%2^k+2^k*Z)%2^k=x%2^k:=by
 rw[Nat.add_mul_mod_self_left,Nat.mod_mod]
theorem YmN (x k:Nat) (l:List (Nat × Nat)) (Y m out:Nat):Yy k (rd ((x,k)::l) Y m out)=.ok (x%2^k,rd l Y m out):=by
 rw[YhW];unfold Yy;rw[if_neg (by show ¬k+(encN l+m)<k;omega)];show Except.ok ((x%2^k+2^k*(encV l+2^encN l*Y))%2^k,(⟨(x%2^k+2^k*(encV l+2^encN l*Y))/2^k,k+(encN l+m)-k,out⟩:Sg))=_;rw[Ye9,Ye8,Nat.add_sub_cancel_left];rfl
theorem VF {x k:Nat} (h:x<2^k) (l:List (Nat × Nat)) (Y m out:Nat):Yy k (rd ((x,k)::l) Y m out)=.ok (x,rd l Y m out):=by
 rw[YmN,Nat.mod_eq_of_lt h]
def symE (L:Nat->Nat) (c s:Nat):Nat × Nat:=(rev (YD L c s) (L s),L s)
theorem X1 (L:Nat->Nat) (c s:Nat) (hs:s<c) (h15:∀i,i<c->L i<=15) (hp:parts L c<=32768):YD L c s<2^L s:=by
 unfold YD;by_cases h:0<L s
 . rw[if_pos h];exact Ydl L c s hs h (h15 s hs) hp
 rw[if_neg h];exact YY _
theorem Jy {L:Nat->Nat} {c s:Nat} (h15:∀i,i<c->L i<=15) (hp:parts L c<=32768) (hs:s<c) (h1:0<L s) (l:List (Nat × Nat)) (Y m out:Nat):symM L c (rd (symE L c s::l) Y m out)=.ok (s,rd l Y m out):=by
 unfold symE;rw[YhW];have hb:=X1 L c s hs h15 hp
 have hr:YD L c s=rev (rev (YD L c s) (L s)%2^L s+2^L s*(encV l+2^encN l*Y)) (L s):=by
  rw[<-Yak _ (L s) (L s) (Qa _),Ye8,Yak _ _ _ (Qa _),YlT,Nat.mod_eq_of_lt hb]
 rw[Yhy (t:=L s) h15 hs rfl h1 (by show L s<=L s+_;omega) hr];show Except.ok (s,(⟨(rev (YD L c s) (L s)%2^L s+2^L s*(encV l+2^encN l*Y))/2^L s,L s+(encN l+m)-L s,out⟩:Sg))=_;rw[Ye9,Nat.add_sub_cancel_left];rfl
def symF (far:Bool) (n:Nat):Nat->Nat
 |0=>0
 |k+1=>if 0<(Yl far (k:Int)).1/\(Yl far (k:Int)).1<=n then k else symF far n k
theorem YeB (k:Nat) (h:k<=27):Yl false (k:Int)=((Ve 4 3 k).1,Vi 4 3 k):=by
 unfold Yl;rw[if_neg (by decide),if_neg (by omega),if_neg (by omega)];rfl
theorem YcB (k:Nat) (h:k<=29):Yl true (k:Int)=((Ve 2 1 k).1,Vi 2 1 k):=by
 unfold Yl;rw[if_pos rfl,if_neg (by omega)];rfl
theorem Yct (far:Bool) (n:Nat) (h0:0<(Yl far 0).1/\(Yl far 0).1<=n):∀k,symF far n (k+1)<=k/\(0<(Yl far (symF far n (k+1):Nat)).1/\(Yl far (symF far n (k+1):Nat)).1<=n)/\∀j:Nat,symF far n (k+1)<j->j<=k->¬(0<(Yl far (j:Int)).1/\(Yl far (j:Int)).1<=n):=by
 intro k
 induction k with
 |zero=>
  have e:symF far n 1=0:=by
   show(if _ then _ else _)=_;split<;>rfl
  rw[e];exact⟨Qa _,h0,fun j h1 h2=>by omega⟩
 |succ k ih=>
  by_cases hk:0<(Yl far ((k+1:Nat):Int)).1/\(Yl far ((k+1:Nat):Int)).1<=n
  . have e:symF far n (k+1+1)=k+1:=if_pos hk
    rw[e];exact⟨Qa _,hk,fun j h1 h2=>by omega⟩
  have e:symF far n (k+1+1)=symF far n (k+1):=if_neg hk;rw[e];refine⟨by omega,ih.2.1,fun j h1 h2=>?_⟩;by_cases ej:j=k+1
  . rw[ej];exact hk
  exact ih.2.2 j h1 (by omega)
theorem YjW:∀k,k<=29->0<(Ve 4 3 k).1/\0<(Ve 2 1 k).1:=by decide
theorem Ye3 (n:Nat) (h3:3<=n) (h258:n<=258):symF false n 29<=28/\(Yl false (symF false n 29:Nat)).1<=n/\n-(Yl false (symF false n 29:Nat)).1<2^(Yl false (symF false n 29:Nat)).2:=by
 obtain⟨h1,⟨_,h2⟩,h4⟩:=Yct false n ⟨by decide,by show 3<=n;exact h3⟩ 28;obtain⟨i,hi⟩:∃i,symF false n 29=i:=⟨_,rfl⟩;rw[show 28+1=29 from rfl,hi] at h1 h2 h4;rw[hi];refine⟨h1,h2,?_⟩;by_cases e28:i=28
 . subst e28
   have e1:(Yl false ((28:Nat):Int))=(258,0):=by decide
   rw[e1] at h2 ⊢;show n-258<2^0;omega
 rw[YeB i (by omega)] at h2 ⊢;by_cases e27:i=27
 . subst e27
   have e1:(Ve 4 3 27).1=227:=by decide
   have e2:Vi 4 3 27=5:=by decide
   have:=h4 28 (by omega) (by omega);have e3:(Yl false ((28:Nat):Int))=(258,0):=by decide
   rw[e3] at this;show n-(Ve 4 3 27).1<2^Vi 4 3 27;rw[e1,e2];have:¬(258<=n):=fun h=>this ⟨by decide,h⟩;omega
 have:=h4 (i+1) (by omega) (by omega);rw[YeB (i+1) (by omega),KZ] at this;have hp:=(YjW i (by omega)).1;have:¬((Ve 4 3 i).1+2^Vi 4 3 i<=n):=fun h=>this ⟨by have:=YY (Vi 4 3 i);show 0<(Ve 4 3 i).1+2^Vi 4 3 i;omega,h⟩;show n-(Ve 4 3 i).1<2^Vi 4 3 i;have:(Ve 4 3 i).1<=n:=h2;omega
theorem Ydk (n:Nat) (h1n:1<=n) (hn:n<=32768):symF true n 30<=29/\(Yl true (symF true n 30:Nat)).1<=n/\n-(Yl true (symF true n 30:Nat)).1<2^(Yl true (symF true n 30:Nat)).2:=by
 obtain⟨h1,⟨_,h2⟩,h4⟩:=Yct true n ⟨by decide,by show 1<=n;exact h1n⟩ 29;obtain⟨i,hi⟩:∃i,symF true n 30=i:=⟨_,rfl⟩;rw[show 29+1=30 from rfl,hi] at h1 h2 h4;rw[hi];refine⟨h1,h2,?_⟩;rw[YcB i (by omega)] at h2 ⊢;by_cases e29:i=29
 . subst e29
   have e1:(Ve 2 1 29).1=24577:=by decide
   have e2:Vi 2 1 29=13:=by decide
   show n-(Ve 2 1 29).1<2^Vi 2 1 29;rw[e1,e2];omega
 have:=h4 (i+1) (by omega) (by omega);rw[YcB (i+1) (by omega),KZ] at this;have:¬((Ve 2 1 i).1+2^Vi 2 1 i<=n):=fun h=>this ⟨by have:=YY (Vi 2 1 i);show 0<(Ve 2 1 i).1+2^Vi 2 1 i;omega,h⟩;show n-(Ve 2 1 i).1<2^Vi 2 1 i;have:(Ve 2 1 i).1<=n:=h2;omega
def lsym (t:Tok):Nat:=symF false t.l.toNat 29
def dsym (t:Tok):Nat:=symF true t.d.toNat 30
def tokE (L:Nat->Nat) (c:Nat) (D:Nat->Nat) (d:Nat) (t:Tok):List (Nat × Nat):=
 if t.l=0 then [symE L c t.b.toNat]
 else [symE L c (257+lsym t),(t.l.toNat-(Yl false (lsym t:Nat)).1,(Yl false (lsym t:Nat)).2),symE D d (dsym t),(t.d.toNat-(Yl true (dsym t:Nat)).1,(Yl true (dsym t:Nat)).2)]
def KW (L D:Nat->Nat) (t:Tok):Prop:=if t.l=0 then 0<L t.b.toNat else 0<L (257+lsym t)/\0<D (dsym t)
structure CodesOK (L:Nat->Nat) (c:Nat) (D:Nat->Nat) (d:Nat):Prop where
 l15:∀i,i<c->L i<=15
 d15:∀i,i<d->D i<=15
 lp:parts L c<=32768
 dp:parts D d<=32768
 c257:257<=c
theorem Ycs {most:Int} {n:Nat} {t:Tok} (h:terr most n t=0):(t.l=0/\t.d=0/\(n:Int)<most)\/(t.l ≠ 0/\t.b=0/\3<=t.l/\t.l<=258/\1<=t.d/\t.d<=32768/\t.d<=(n:Int)/\(n:Int)+t.l<=most):=by
 unfold terr at h;by_cases h0:t.l=0
 . rw[if_pos h0] at h
   by_cases h1:t.d=0
   . rw[if_neg (by simpa using h1)] at h
     by_cases h2:most<=(n:Int)
     . rw[if_pos h2] at h;omega
     exact .inl ⟨h0,h1,by omega⟩
   rw[if_pos h1] at h;omega
 rw[if_neg h0] at h;by_cases h1:t.b ≠ 0\/t.l<3\/258<t.l\/t.d<1\/32768<t.d\/(n:Int)<t.d
 . rw[if_pos h1] at h;omega
 rw[if_neg h1] at h
 have hb:t.b=0:=by
  by_cases e:t.b=0
  . exact e
  exact absurd (.inl e) h1
 have h1':=fun x=>h1 (.inr x);by_cases h2:most<(n:Int)+t.l
 . rw[if_pos h2] at h;omega
 exact .inr ⟨h0,hb,by omega,by omega,by omega,by omega,by omega,by omega⟩
theorem YmX {L:Nat->Nat} {c:Nat} {D:Nat->Nat} {d most:Nat} (C:CodesOK L c D d) (t:Tok) (out:Nat) (ht:terr (most:Int) out t=0) (hh:KW L D t) (hc:t.l ≠ 0->257+lsym t<c/\dsym t<d) (l:List (Nat × Nat)) (Y m:Nat) :
 Y1 L c D d most (rd (tokE L c D d t++l) Y m out)=.ok (some t,rd l Y m (out+tlen t)):=by
 unfold Y1 tokE;rcases Ycs ht with⟨h0,h1,h2⟩|⟨h0,hb,h3,h4,h5,h6,h7,h8⟩
 . have hb:=t.b.toNat_lt
   have h257:=C.c257;unfold KW at hh;rw[if_pos h0] at hh;rw[if_pos h0];show Yc (symM L c (rd (symE L c t.b.toNat::l) Y m out)) _=_;rw[Jy C.l15 C.lp (by omega) hh,Yj,if_neg (by omega),if_pos (by omega)];unfold VY;rw[if_neg (by rw[YhV];omega),Yj]
   have e:(⟨UInt8.ofNat t.b.toNat,0,0⟩:Tok)=t:=by
    cases t;rename_i b ll dd;simp only at h0 h1;subst h0 h1
    congr 1
    simp
   rw[e];have e2:tlen t=1:=by unfold tlen;rw[if_pos h0]
   rw[e2];rfl
 unfold KW at hh;rw[if_neg h0] at hh;rw[if_neg h0];obtain⟨hc1,hc2⟩:=hc h0;obtain⟨a1,a2,a3⟩:=Ye3 t.l.toNat (by omega) (by omega);obtain⟨b1,b2,b3⟩:=Ydk t.d.toNat (by omega) (by omega);have ea:lsym t=symF false t.l.toNat 29:=rfl;have eb:dsym t=symF true t.d.toNat 30:=rfl;rw[<-ea] at a1 a2 a3;rw[<-eb] at b1 b2 b3;show Yc (symM L c (rd (symE L c (257+lsym t)::(t.l.toNat-(Yl false (lsym t:Nat)).1,(Yl false (lsym t:Nat)).2)::symE D d (dsym t)::(t.d.toNat-(Yl true (dsym t:Nat)).1,(Yl true (dsym t:Nat)).2)::l) Y m out)) _=_;rw[Jy C.l15 C.lp hc1 hh.1,Yj,if_neg (by omega),if_neg (by omega),if_neg (by omega)];have e1:((257+lsym t:Nat):Int)-257=((lsym t:Nat):Int):=by omega
 rw[e1,VF a3,Yj,Jy C.d15 C.dp hc2 hh.2,Yj,if_neg (by omega),VF b3,Yj,if_neg (by rw[YhV];omega)];unfold VY;rw[show(Yl false ((lsym t:Nat):Int)).1+(t.l.toNat-(Yl false ((lsym t:Nat):Int)).1)=t.l.toNat by omega,show(Yl true ((dsym t:Nat):Int)).1+(t.d.toNat-(Yl true ((dsym t:Nat):Int)).1)=t.d.toNat by omega];rw[if_neg (by rw[YhV];omega),Yj]
 have e:(⟨0,((t.l.toNat:Nat):Int),((t.d.toNat:Nat):Int)⟩:Tok)=t:=by
  cases t;rename_i b ll dd;simp only at hb h3 h5;subst hb
  congr 1
  . show((ll.toNat:Nat):Int)=ll;omega
  show((dd.toNat:Nat):Int)=dd;omega
 rw[e];have e2:tlen t=t.l.toNat:=by unfold tlen;rw[if_neg h0]
 rw[e2];rfl
theorem Ynp {L:Nat->Nat} {c:Nat} {D:Nat->Nat} {d most:Nat} (C:CodesOK L c D d) (h:0<L 256) (l:List (Nat × Nat)) (Y m out:Nat):Y1 L c D d most (rd (symE L c 256::l) Y m out)=.ok (none,rd l Y m out):=by
 unfold Y1;have h257:=C.c257;rw[Jy C.l15 C.lp (by omega) h,Yj,if_pos rfl]
def VK (L:Nat->Nat) (c:Nat) (D:Nat->Nat) (d:Nat) (S:List Tok):List (Nat × Nat):=S.flatMap (tokE L c D d)
theorem U3 (L:Nat->Nat) (c:Nat) (D:Nat->Nat) (d:Nat) (t:Tok) (S:List Tok):VK L c D d (t::S)=tokE L c D d t++VK L c D d S:=rfl
theorem Yhp (L:Nat->Nat) (c:Nat) (D:Nat->Nat) (d:Nat) (S T:List Tok):VK L c D d (S++T)=VK L c D d S++VK L c D d T:=List.flatMap_append
theorem UG {most:Int} {o:List UInt8} {t:Tok} {r:List Tok} {T:List UInt8} (h:texp most o (t::r)=(T,0)):terr most o.length t=0/\texp most (tout o t) r=(T,0):=by
 by_cases h0:terr most o.length t=0
 . exact⟨h0,(UE h0).symm.trans h⟩
 rw[Yhv rfl h0] at h;injection h with _ h;exact absurd h h0
theorem Yho {L:Nat->Nat} {c:Nat} {D:Nat->Nat} {d most:Nat} (C:CodesOK L c D d) (h256:0<L 256) (l:List (Nat × Nat)) (Y m:Nat) (T:List UInt8):∀(S:List Tok) (o:List UInt8) (f:Nat) (S0:List Tok),texp (most:Int) o S=(T,0)->(∀t ∈ S,KW L D t/\(t.l ≠ 0->257+lsym t<c/\dsym t<d))->S.length<f->
 tokM L c D d most f (rd (VK L c D d S++symE L c 256::l) Y m o.length) S0=.ok (S0++S,rd l Y m (o.length+Vh S)):=by
 intro S
 induction S with
 |nil=>
  intro o f S0 h1 h2 h3;obtain⟨f,rfl⟩:∃g,f=g+1:=⟨f-1,by omega⟩;show Yc (Y1 L c D d most (rd (symE L c 256::l) Y m o.length)) _=_;rw[Ynp C h256,Yj,List.append_nil];rfl
 |cons t S ih=>
  intro o f S0 h1 h2 h3;obtain⟨f,rfl⟩:∃g,f=g+1:=⟨f-1,by omega⟩;obtain⟨h4,h5⟩:=UG h1;obtain⟨h6,h7⟩:=h2 t (List.mem_cons_self ..);rw[U3,List.append_assoc];show Yc (Y1 L c D d most (rd (tokE L c D d t++(VK L c D d S++symE L c 256::l)) Y m o.length)) _=_;rw[YmX C t o.length h4 h6 h7,Yj];show tokM L c D d most f _ (S0++[t])=_;rw[<-YbD o t,ih (tout o t) f (S0++[t]) h5 (fun x hx=>h2 x (List.mem_cons_of_mem _ hx)) (by simpa using h3),List.append_assoc,YbD];have e:Vh (t::S)=tlen t+Vh S:=rfl;rw[e,Nat.add_assoc];rfl
theorem UF (most:Int):∀(S:List Tok) (o T:List UInt8),texp most o S=(T,0)->UT o S=T:=by
 intro S
 induction S with
 |nil=>intro o T h;injection h
 |cons t S ih=>
  intro o T h;exact ih _ _ (UG h).2
theorem Ycr (most:Int):∀(S:List Tok) (o T:List UInt8),texp most o S=(T,0)->∀t ∈ S,(t.l=0/\t.d=0)\/(t.l ≠ 0/\t.b=0/\3<=t.l/\t.l<=258/\1<=t.d/\t.d<=32768):=by
 intro S
 induction S with
 |nil=>intro o T _ t ht;cases ht
 |cons x S ih=>
  intro o T h t ht;obtain⟨h1,h2⟩:=UG h;rcases List.mem_cons.1 ht with rfl|ht
  . rcases Ycs h1 with⟨a,b,_⟩|⟨a,b,c,d,e,f,_⟩
    . exact .inl ⟨a,b⟩
    exact .inr ⟨a,b,c,d,e,f⟩
  exact ih _ _ h2 t ht
theorem JQ (t:Tok) (h:3<=t.l/\t.l<=258/\1<=t.d/\t.d<=32768):lsym t<=28/\dsym t<=29:=
 ⟨(Ye3 t.l.toNat (by omega) (by omega)).1,(Ydk t.d.toNat (by omega) (by omega)).1⟩
theorem codes_fix:CodesOK (lens fixL) 288 (lens fun _=>5) 32 where
 l15:=YnI
 d15:=Yno
 lp:=by decide +kernel
 dp:=by decide +kernel
 c257:=by decide
theorem Yd7 (i:Nat):0<lens fixL i:=by
 unfold lens fixL;split
 . decide
 split
 . decide
 split<;>decide
def fixE (S:List Tok):List (Nat × Nat):=(1,1)::(1,2)::(VK (lens fixL) 288 (lens fun _=>5) 32 S++[symE (lens fixL) 288 256])
def encB (l:List (Nat × Nat)):ByteArray:=⟨(YB (encV l) ((encN l+7)/8)).toArray⟩
theorem YaE (l:List (Nat × Nat)):(encB l).size=(encN l+7)/8:=by
 show(YB _ _).toArray.size=_;rw[List.size_toArray,YW]
theorem Yi0 (l:List (Nat × Nat)):sg (encB l) 0 0=rd l 0 (8*((encN l+7)/8)-encN l) 0:=by
 have hn:num (encB l)=encV l:=by
  unfold num;show leN (YB (encV l) ((encN l+7)/8))=encV l;rw[Kj,Xw,Nat.mod_eq_of_lt (Qb (YmG l) (Nat.pow_le_pow_right (by decide) (by omega)))]
 unfold sg rd;rw[YaE,hn,Nat.pow_zero,Nat.div_one,Nat.mul_zero,Nat.sub_zero,show encN l+(8*((encN l+7)/8)-encN l)=8*((encN l+7)/8) by omega];rfl
theorem YjN (L:Nat->Nat) (c:Nat) (D:Nat->Nat) (d:Nat) (t:Tok) (h:KW L D t):1<=encN (tokE L c D d t):=by
 unfold KW at h;unfold tokE;by_cases h0:t.l=0
 . rw[if_pos h0] at h ⊢
   simp only[encN,symE];omega
 rw[if_neg h0] at h ⊢;simp only[encN,symE];omega
theorem Ycp (L:Nat->Nat) (c:Nat) (D:Nat->Nat) (d:Nat) (S:List Tok) (h:∀t ∈ S,KW L D t):S.length<=encN (VK L c D d S):=by
 induction S with
 |nil=>exact Nat.zero_le _
 |cons t S ih=>
  rw[U3,Y0,List.length_cons];have:=YjN L c D d t (h t (List.mem_cons_self ..));have:=ih fun x hx=>h x (List.mem_cons_of_mem _ hx);omega
theorem YkJ (S:List Tok) (most:Nat) (T:List UInt8) (h:texp (most:Int) [] S=(T,0)):Kl (encB (fixE S)) most=.ok ([⟨1,[],S⟩],⟨0,8*((encN (fixE S)+7)/8)-encN (fixE S),T.length⟩):=by
 unfold Kl;rw[Yi0];obtain⟨m,hm⟩:∃m,8*((encN (fixE S)+7)/8)-encN (fixE S)=m:=⟨_,rfl⟩;rw[hm];have hts:=Ycr _ S [] T h
 have hhas:∀t ∈ S,KW (lens fixL) (lens fun _=>5) t/\(t.l ≠ 0->257+lsym t<288/\dsym t<32):=by
  intro t ht;refine⟨?_,fun h0=>?_⟩
  . unfold KW
    split
    . exact Yd7 _
    exact⟨Yd7 _,show 0<5 by decide⟩
  rcases hts t ht with⟨a,_⟩|⟨_,_,a⟩
  . exact absurd a h0
  have:=JQ t a;omega
 show Yc (Xx most (rd (fixE S) 0 m 0)) _=_
 have hb:Xx most (rd (fixE S) 0 m 0)=.ok ((1,⟨1,[],S⟩),rd [] 0 m (0+Vh S)):=by
  unfold Xx fixE;rw[VF (by decide),Yj,VF (by decide),Yj,if_neg (by decide),if_pos rfl,YdA]
  have e0:tokM (lens fixL) 288 (lens fun _=>5) 32 most ((rd (VK (lens fixL) 288 (lens fun _=>5) 32 S++[symE (lens fixL) 288 256]) 0 m 0).n+1) (rd (VK (lens fixL) 288 (lens fun _=>5) 32 S++[symE (lens fixL) 288 256]) 0 m 0) []=.ok ([]++S,rd [] 0 m (0+Vh S)):=
   Yho codes_fix (Yd7 256) [] 0 m T S [] _ [] h hhas (by
    rw[rd_n,Y0];have:=Ycp (lens fixL) 288 (lens fun _=>5) 32 S fun t ht=>(hhas t ht).1
    omega)
  rw[e0,Yj];rfl
 rw[hb,Yj]
 have e:(rd [] 0 m (0+Vh S))=⟨0,m,T.length⟩:=by
  have:=KP S [];rw[UF _ S [] T h] at this;unfold rd encV encN;rw[this];simp
 rw[e];rfl
theorem YkI (S:List Tok) (most:Int) (T:List UInt8) (h:texp most [] S=(T,0)):X5 [] [⟨1,[],S⟩]=T:=UF most S [] T h
def PK (w0 W:World) (P:Nat) (v:Value) (l:List (Nat × Nat)):Prop:=SinkAt W P v (encV l) (encN l)/\Below w0.heap.size w0 W/\w0.heap.size<=P
theorem PK.below {w0 W W':World} {P:Nat} {v:Value} {l:List (Nat × Nat)} (h:PK w0 W P v l) (hb:Below W.heap.size W W'):PK w0 W' P v l:=by
 have hlt:=World.ownsRow.lt h.1.2.1;refine⟨⟨h.1.1.below hb h.1.1.lt,⟨h.1.2.1.1,?_⟩,h.1.2.2⟩,h.2.1.trans (hb.mono h.2.1.size),h.2.2⟩;rcases h.1.2.1.2 with h2|⟨g,cap,cur,rfl,h3,h4,h5⟩
 . exact .inl h2
 exact .inr ⟨g,cap,cur,rfl,h3,(hb.block g (hlt g rfl).2).trans h4,h5⟩
theorem PK.drew {w0 W:World} {P:Nat} {v:Value} {l:List (Nat × Nat)} (h:PK w0 W P v l):PK w0 W.drew P v l:=h.below ⟨rfl,rfl,rfl,Qa _,fun _ _=>rfl⟩
theorem PK.drewN {w0 W:World} {P:Nat} {v:Value} {l:List (Nat × Nat)} (h:PK w0 W P v l) (n:Nat):PK w0 (W.drewN n) P v l:=h.below ⟨rfl,rfl,rfl,Qa _,fun _ _=>rfl⟩
theorem PK.new (w:World):PK w (w.alloc (.cells #[.slice none 0 0,.int .u64 0,.int .i64 0] 121)) w.heap.size (.slice none 0 0) []:=
 ⟨⟨Blk.new w 121 _,World.ownsRow_nil _ _ _ _,by decide⟩,(Below.refl w.heap.size w).alloc (Qa _) _,Qa _⟩
theorem PK.chg {w0 W W':World} {P:Nat} {v v':Value} {l l':List (Nat × Nat)} (h:PK w0 W P v l) (hS:SinkAt W' P v' (encV l') (encN l')) (hc:Chg W W' P v):PK w0 W' P v' l':=
 ⟨hS,hc.below h.2.1 h.2.2 fun g e=>by have:=(World.ownsRow.lt h.1.2.1 g e).1;have:=h.2.2;omega,h.2.2⟩
theorem XX (w0:World) (P:Nat) (v:Value) (l:List (Nat × Nat)) (x k:Nat) (N:Int) (hx:x<4294967296) (hN:JP N k) (hc:encN l<=900000000) (W:World) (h:PK w0 W P v l) :
 Calls Tryz.prog 58 #[.pointer (some ⟨P,0,none⟩),.int .u32 (x:Int),.int .i64 N] W fun e W'=>e=.returned (.tuple #[])/\∃v',PK w0 W' P v' (l++[(x,k)])/\KeepT W W':=
 (XH P v _ _ x k N hx hN (by omega) W h.1).mono fun e W' ⟨h1,v',h2,h3,_⟩=>⟨h1,v',h.chg (by rw[Ydj,Vq];exact h2) h3,Yh0 h.1 h3⟩
theorem YlE (w0:World) (P:Nat) (v:Value) (l:List (Nat × Nat)) (x k:Nat) (N:Int) (hx:x<4294967296) (hN:JP N k) (hc:encN l<=900000000) (W:World) (h:PK w0 W P v l) :
 Calls Tryz.prog 110 #[.pointer (some ⟨P,0,none⟩),.int .u32 (x:Int),.int .i64 N] W fun e W'=>e=.returned (.tuple #[])/\∃v',PK w0 W' P v' (l++[(rev x k,k)])/\KeepT W W':=
 (YcC P v _ _ x k N hx hN (by omega) W h.1).mono fun e W' ⟨h1,v',h2,h3,_⟩=>⟨h1,v',h.chg (by rw[Ydj,Vq];exact h2) h3,Yh0 h.1 h3⟩
theorem Yfu (w0:World) (P:Nat) (v:Value) (l:List (Nat × Nat)) (hc:encN l<=900000000) (W:World) (h:PK w0 W P v l) :
 Calls Tryz.prog 61 #[.pointer (some ⟨P,0,none⟩)] W fun e W'=>e=.returned (.string (encB l))/\Below W.heap.size W W':=
 Yad P v _ _ (by omega) W h.1
theorem UK (far:Bool) (i:Nat) (h:i<=29):(Yl far (i:Int)).1<=100000/\(Yl far (i:Int)).2<=14:=by
 have key:∀i:Nat,i<30->((Yl false (i:Int)).1<=100000/\(Yl false (i:Int)).2<=14)/\((Yl true (i:Int)).1<=100000/\(Yl true (i:Int)).2<=14):=by decide
 cases far
 . exact(key i (by omega)).1
 exact(key i (by omega)).2
theorem Yht (L:Nat->Nat) (c:Nat) (D:Nat->Nat) (d:Nat) (t:Tok) (hL:∀i,L i<=15) (hD:∀i,D i<=15) (h:(t.l=0/\t.d=0)\/(t.l ≠ 0/\t.b=0/\3<=t.l/\t.l<=258/\1<=t.d/\t.d<=32768)):encN (tokE L c D d t)<=60:=by
 unfold tokE;rcases h with⟨h0,_⟩|⟨h0,_,h1⟩
 . rw[if_pos h0]
   have:=hL t.b.toNat;simp only[encN,symE];omega
 rw[if_neg h0];obtain⟨a,b⟩:=JQ t h1;have:=hL (257+lsym t);have:=hD (dsym t);have:=(UK false (lsym t) (by omega)).2;have:=(UK true (dsym t) (by omega)).2;simp only[encN,symE];omega
theorem YbE (L:Nat->Nat) (c:Nat) (D:Nat->Nat) (d:Nat) (S:List Tok) (hL:∀i,L i<=15) (hD:∀i,D i<=15) (h:∀t ∈ S,(t.l=0/\t.d=0)\/(t.l ≠ 0/\t.b=0/\3<=t.l/\t.l<=258/\1<=t.d/\t.d<=32768)):encN (VK L c D d S)<=60*S.length:=by
 induction S with
 |nil=>exact Nat.zero_le _
 |cons t S ih=>
  rw[U3,Y0,List.length_cons];have:=Yht L c D d t hL hD (h t (List.mem_cons_self ..));have:=ih fun x hx=>h x (List.mem_cons_of_mem _ hx);omega
theorem Yj1 (far:Bool) (i:Int) (w:World):Calls Tryz.prog 101 #[.int .i64 i,.bool far] w fun e w'=>e=.returned (.tuple #[.int .i64 ((Yl far i).1:Int),.int .i64 ((Yl far i).2:Int)])/\∃n,w'=w.drewN n:=by
 cases far
 . exact YcA i w
 exact YeC i w
set_option maxHeartbeats 8000000 in
theorem XB (far:Bool) (n:Nat) (h0:0<(Yl far 0).1/\(Yl far 0).1<=n) (hn:n<=40000) (w:World) :
 Calls Tryz.prog 89 #[.int .i64 (n:Int),.bool far] w fun e w'=>e=.returned (.tuple #[.int .i64 ((symF far n 30:Nat):Int),.int .u32 ((n-(Yl far (symF far n 30:Nat)).1:Nat):Int),.int .i64 ((Yl far (symF far n 30:Nat)).2:Int)])/\∃m,w'=w.drewN m:=by
 obtain⟨Y,HY⟩:=Qi (symF far n 30);rw[HY.out];have H0:=Qf h0;clear h0;go_enter Tryz.func89,Tryz.ntmps89;go_wp2_with fail
 go_loopw [7] (fun i_ wr=>∃j m:Nat,j<=29/\i_=.int .i64 (j:Int)/\Hid (symF far n (j+1)=Y)/\wr=w.drewN m) (fun i _=>(intOf i).toNat)
 case atStart=>exact⟨29,0,Qa _,rfl,HY,by first|rfl|trivial⟩
 obtain⟨j,m,hj,rfl,HS,hwr⟩:=hrel;have CS:=Qf (Yj1 far (j:Int) wr);obtain⟨⟨b,mo⟩,Hsz⟩:∃R,Hid (Yl far (j:Int)=R):=⟨_,Qf (Eq.refl _)⟩;rw[Hsz.out] at CS;dsimp only at CS;have hlim:=UK far j hj;rw[Hsz.out] at hlim;dsimp only at hlim;have hb:b<=100000:=hlim.1;have Hwr:=Qf hwr;clear hlim hwr;go_wp2_with fail;refine CS.out.mono ?_;rintro e w2 ⟨rfl,m2,rfl⟩;by_cases hb0:0<b
 . have d0:decide ((0:Int)<(b:Int))=true:=Qg (by omega)
   have d0b:decide (0<b)=true:=Qg (by omega);by_cases hbn:b<=n
   . obtain⟨d1,d1b⟩:=Qk (show b<=n by omega)
     have hY:Y=j:=by
      rw[<-HS.out];exact if_pos ⟨by rw[Hsz.out];exact hb0,by rw[Hsz.out];exact hbn⟩
     obtain⟨x,Hx⟩:=Qi (n-b);have hxv:=Hx.out;have v1:IntKind.i64.wrap ((n:Int)-(b:Int))=(x:Int):=(by rw[IntKind.wrap_i64];omega);have v2:(n:Int)-(b:Int)=(x:Int):=(by omega);have v3:IntKind.u32.wrap (x:Int)=(x:Int):=(by rw[IntKind.wrap_u32];omega);have hx4:x<=40000:=(by omega);have v4:(x:Int)%4294967296=(x:Int):=(by omega);clear hxv;go_wp2_with fail
     go_ret3
     refine⟨?_,m+m2,by rw[Hwr.out,World.drewN_drewN]⟩;rw[hY,Hsz.out];dsimp only;rw[Hx.out];rfl
   obtain⟨d1,d1b⟩:=Qm (show n<b by omega)
   have hstep:symF far n j=Y:=by
    rw[<-HS.out];exact(if_neg (fun h=>hbn (by have:=h.2;rw[Hsz.out] at this;exact this))).symm
   obtain⟨q,rfl⟩:∃q,j=q+1:=by
    by_cases hj0:j=0
    . subst hj0
      have:=H0.out.2;have e:Yl far 0=(b,mo):=Hsz.out;rw[e] at this;exact absurd this hbn
    exact⟨j-1,by omega⟩
   have Hstep:=Qf hstep;have v5:((q+1:Nat):Int)-1=(q:Int):=by omega
   clear hstep;go_wp2_with fail;go_roundw
   case rel=>exact⟨q,m+m2,by omega,by go_num,Hstep,by rw[Hwr.out,World.drewN_drewN]⟩
   simp[intOf]
 have d0:decide ((0:Int)<(b:Int))=false:=Qh (by omega);have d0b:decide (0<b)=false:=Qh (by omega)
 have hstep:symF far n j=Y:=by
  rw[<-HS.out];exact(if_neg (fun h=>hb0 (by have:=h.1;rw[Hsz.out] at this;exact this))).symm
 obtain⟨q,rfl⟩:∃q,j=q+1:=by
  by_cases hj0:j=0
  . subst hj0
    have:=H0.out.1;have e:Yl far 0=(b,mo):=Hsz.out;rw[e] at this;exact absurd this hb0
  exact⟨j-1,by omega⟩
 have Hstep:=Qf hstep;clear hstep;go_wp2_with fail;go_roundw
 case rel=>exact⟨q,m+m2,by omega,by go_num,Hstep,by rw[Hwr.out,World.drewN_drewN]⟩
 simp[intOf]
theorem YdD (n:Nat):symF false n 30=symF false n 29:=by
 show(if 0<(Yl false ((29:Nat):Int)).1/\_ then 29 else symF false n 29)=_;rw[if_neg (fun h=>absurd h.1 (by decide))]
set_option maxHeartbeats 8000000 in
theorem YbS (w0:World) (P:Nat) (v:Value) (l:List (Nat × Nat)) (gc n cap s:Nat) (F L:Nat->Nat) (hs:s<n) (_hn:n<=1000) (hL:L s<=15) (hF:F s<4294967296) (hc:encN l<=900000000) (W:World) (h:PK w0 W P v l) (hB:Blk W gc 163 (YC n F L)) :
 Calls Tryz.prog 88 #[.pointer (some ⟨P,0,none⟩),.slice (some ⟨gc,0,none⟩) n cap,.int .i64 (s:Int)] W fun e W'=>e=.returned (.tuple #[])/\∃v',PK w0 W' P v' (l++[(rev (F s) (L s),L s)])/\KeepT W W':=by
 have HB:=Qf hB;have hBk:=hB;have k0:=hBk.cell (s*2);rw[Uy n F L s (s*2) rfl hs] at k0;have k1:=hBk.cell (s*2+1);rw[Js n F L s (s*2+1) rfl hs] at k1;obtain⟨k,Hk⟩:=Qi (L s);obtain⟨f,Hf⟩:=Qi (F s);rw[Hf.out] at k0 hF ⊢;rw[Hk.out] at k1 hL ⊢;have HTn:=Qf (YlE w0 P v l f k (k:Int) hF (.inr (.inl ⟨rfl,by omega⟩)) hc W.drew h.drew);obtain⟨l2,Hl2⟩:=Qi (l++[(rev f k,k)]);rw[Hl2.out] at HTn ⊢;have k0d:W.drew.cell? ⟨gc,s*2,none⟩=some (.int .u32 (f:Int)):=k0;have k1d:W.drew.cell? ⟨gc,s*2+1,none⟩=some (.int .i64 (k:Int)):=k1;have hsI:(s:Int)<(n:Int):=by omega
 clear hBk k0 k1 h hB;go_enter Tryz.func88,Tryz.ntmps88;go_wp2_with fail
 go_region_held3 (fun W=>W.cell? ⟨gc,s*2,none⟩=some (.int .u32 (f:Int))/\W.cell? ⟨gc,s*2+1,none⟩=some (.int .i64 (k:Int)))
  (first|exact⟨by assumption,by assumption⟩|go_keep)
  (first
   |(go_at_call 110;refine HTn.out.mono ?_;rintro e w8 ⟨rfl,v8,hp8,hkt8⟩;have q3:=hp8;have hBk8:=hkt8 gc 163 _ (by decide) (by decide) HB.out.drew;have q0:=hBk8.cell (s*2);have q1:=hBk8.cell (s*2+1);rw[Uy n F L s (s*2) rfl hs,Hf.out] at q0;rw[Js n F L s (s*2+1) rfl hs,Hk.out] at q1))
 have HP8:=Qf q3;have HK8:Hid (KeepT W w8):=fun B t cs h1 h2 h3=>hkt8 B t cs h1 h2 h3;clear q0 q1 q3 hBk8 hp8 hkt8;go_wp2_with fail
 (try simp only[Exit.inBlock,Exit.then]);refine bodyPost_end (results_none rfl _ _ _) rfl ?_
 exact⟨rfl,v8,HP8.out,HK8.out⟩
theorem YjJ (S:List Tok) (j:Nat) (hj:j<S.length) (L:Nat->Nat) (c:Nat) (D:Nat->Nat) (d:Nat):VK L c D d (S.take (j+1))=VK L c D d (S.take j)++tokE L c D d (tk S j):=by
 rw[List.take_succ_eq_append_getElem hj,<-J2 hj,Yhp]
 congr 1
 show tokE L c D d (tk S j)++[]=_;rw[List.append_nil]
def TokW (n1 n2:Nat) (t:Tok):Prop:=(t.l=0/\t.d=0/\t.b.toNat<n1)\/(t.l ≠ 0/\t.b=0/\3<=t.l/\t.l<=258/\1<=t.d/\t.d<=32768/\257+lsym t<n1/\dsym t<n2)
theorem TokW.ok {n1 n2:Nat} {t:Tok} (h:TokW n1 n2 t):(t.l=0/\t.d=0)\/(t.l ≠ 0/\t.b=0/\3<=t.l/\t.l<=258/\1<=t.d/\t.d<=32768):=by
 rcases h with⟨a,b,_⟩|⟨a,b,c,d,e,f,_⟩
 . exact .inl ⟨a,b⟩
 exact .inr ⟨a,b,c,d,e,f⟩
set_option maxHeartbeats 32000000 in
theorem Yci (w0:World) (P:Nat) (v:Value) (l:List (Nat × Nat)) (S:List Tok) (a:Option Addr) (cap G1 n1 c1 G2 n2 c2:Nat) (L D:Nat->Nat) (hS:S.length<=100000) (hn1:257<=n1/\n1<=320) (hn2:n2<=320) (hL:∀i,L i<=15) (hD:∀i,D i<=15)
 (hF:∀i,i<n1->YD L n1 i<4294967296) (hE:∀i,i<n2->YD D n2 i<4294967296) (hc:encN l<=1000000) (ht:∀t ∈ S,TokW n1 n2 t)
 (W:World) (h:PK w0 W P v l) (hr:TkRow w0 a S) (hB1:Blk W G1 163 (YC n1 (YD L n1) L)) (hB2:Blk W G2 163 (YC n2 (YD D n2) D)) :
 Calls Tryz.prog 64 #[.pointer (some ⟨P,0,none⟩),.slice a S.length cap,.slice (some ⟨G1,0,none⟩) n1 c1,.slice (some ⟨G2,0,none⟩) n2 c2] W fun e W'=>e=.returned (.tuple #[])/\∃v',PK w0 W' P v' (l++VK L n1 D n2 S++[symE L n1 256])/\KeepT W W':=by
 have HR:=Qf hr;have Ht:=Qf ht;have HL15:=Qf hL;have HD15:=Qf hD;obtain⟨F,HFd⟩:=Qi (YD L n1);obtain⟨E,HEd⟩:=Qi (YD D n2);rw[HFd.out] at hF hB1;rw[HEd.out] at hE hB2;have HF:=Qf hF;have HE:=Qf hE
 have HsE:Hid (∀i,symE L n1 i=(rev (F i) (L i),L i)):=by show ∀i,_;rw[<-HFd.out];exact fun i=>rfl
 have HsD:Hid (∀i,symE D n2 i=(rev (E i) (D i),D i)):=by show ∀i,_;rw[<-HEd.out];exact fun i=>rfl
 have CP1:Hid (∀(s:Nat) (v:Value) (l:List (Nat × Nat)) (W:World),s<n1->encN l<=900000000->PK w0 W P v l->Blk W G1 163 (YC n1 F L)->Calls Tryz.prog 88 #[.pointer (some ⟨P,0,none⟩),.slice (some ⟨G1,0,none⟩) n1 c1,.int .i64 (s:Int)] W fun e W'=>e=.returned (.tuple #[])/\∃v',PK w0 W' P v' (l++[(rev (F s) (L s),L s)])/\KeepT W W'):=
  fun s v l W h1 h2 h3 h4=>YbS w0 P v l G1 n1 c1 s F L h1 (by omega) (HL15.out s) (HF.out s h1) h2 W h3 h4
 have CP2:Hid (∀(s:Nat) (v:Value) (l:List (Nat × Nat)) (W:World),s<n2->encN l<=900000000->PK w0 W P v l->Blk W G2 163 (YC n2 E D)->Calls Tryz.prog 88 #[.pointer (some ⟨P,0,none⟩),.slice (some ⟨G2,0,none⟩) n2 c2,.int .i64 (s:Int)] W fun e W'=>e=.returned (.tuple #[])/\∃v',PK w0 W' P v' (l++[(rev (E s) (D s),D s)])/\KeepT W W'):=
  fun s v l W h1 h2 h3 h4=>YbS w0 P v l G2 n2 c2 s E D h1 (by omega) (HD15.out s) (HE.out s h1) h2 W h3 h4
 have CPu:=Qf (XX w0 P);obtain⟨M,HM⟩:=Qi (S.length);rw[HM.out] at hS ⊢;obtain⟨l0,Hl0⟩:∃l0,Hid (l0=l++VK L n1 D n2 (S.take 0)):=⟨l,by show l=l++[];rw[List.append_nil]⟩;have hl0:l0=l:=by rw[Hl0.out];exact List.append_nil l
 have HP0:Hid (PK w0 W P v l0):=by rw[hl0];exact h
 have Hle0:Hid (encN l0<=encN l+60*0):=by rw[hl0];exact Qa _
 have HK0:Hid (KeepT W W):=fun _ _ _ _ _ x=>x;have HB1:=Qf hB1;have HB2:=Qf hB2;clear hr ht hL hD hF hE hB1 hB2 h hl0;go_enter Tryz.func64,Tryz.ntmps64;go_wp2_with fail
 go_loopw [15] (fun j_ wr=>∃(j:Nat) (v:Value) (lx:List (Nat × Nat)),j<=M/\j_=.int .i64 (j:Int)/\Hid (PK w0 wr P v lx)/\Hid (lx=l++VK L n1 D n2 (S.take j))/\Hid (encN lx<=encN l+60*j)/\Hid (KeepT W wr)) (fun j _=>M-(intOf j).toNat)
 case atStart=>exact⟨0,v,l0,by omega,rfl,HP0,Hl0,Hle0,HK0⟩
 clear HP0 Hl0 Hle0 HK0;obtain⟨j,v,lx,hj,rfl,HPl,Hl,Hle,HK⟩:=hrel;by_cases hlt:j<M
 . have dj:decide ((j:Int)<(M:Int))=true:=Qg (by omega)
   have hlI:(j:Int)<(M:Int):=by omega
   have hjS:j<S.length:=by rw[HM.out];exact hlt
   obtain⟨b,off,rfl,_,c0,c1',c2'⟩:=(HR.out.below HPl.out.2.1 (Qa _)).get j hjS;have hmem:tk S j ∈ S:=by rw[J2 hjS];exact List.getElem_mem _
   have htk:=YjJ S j hjS L n1 D n2;have hok:=Ht.out _ hmem;have hle60:=Yht L n1 D n2 (tk S j) HL15.out HD15.out hok.ok;obtain⟨⟨tb,tl,td⟩,Htt⟩:∃R,Hid (tk S j=R):=⟨_,Qf (Eq.refl _)⟩;rw[Htt.out] at c0 c1' c2' htk hok hle60;dsimp only at c0 c1' c2';have Htk:=Qf htk;have Hle60:=Qf hle60;have hBA:=Blk.new wr 119 #[.int .u8 (tb.toNat:Int),.int .i64 tl,.int .i64 td];have HBA:=Qf hBA;have hal:=(Below.refl wr.heap.size wr).alloc (Qa _) (.cells #[.int .u8 (tb.toNat:Int),.int .i64 tl,.int .i64 td] 119);have HPa:=Qf (HPl.out.below hal);have HKa:=Qf (HK.out.trans (KeepT.below hal));have ht0:(wr.alloc (.cells #[.int .u8 (tb.toNat:Int),.int .i64 tl,.int .i64 td] 119)).cell? ⟨wr.heap.size,0,none⟩=some (.int .u8 (tb.toNat:Int)):=hBA.cell 0;have ht1:(wr.alloc (.cells #[.int .u8 (tb.toNat:Int),.int .i64 tl,.int .i64 td] 119)).cell? ⟨wr.heap.size,1,none⟩=some (.int .i64 tl):=hBA.cell 1;have hbyte:=tb.toNat_lt;clear htk hle60 hmem hBA hal HPl HK;by_cases hl0:tl=0
   . subst hl0
     have d1:((0:Int)==0)=true:=rfl;obtain⟨σ,Hσ⟩:=Qi (tb.toNat)
     have hσn:σ<n1:=by
      rw[<-Hσ.out];rcases hok with⟨_,_,h⟩|⟨h,_⟩
      . exact h
      exact absurd rfl h
     rw[Hσ.out] at c0 HBA HPa HKa ht0 ht1 hbyte;have w20:wrap64 (σ:Int)=(σ:Int):=(by unfold wrap64;omega);have CPs:=Qf (CP1.out σ v lx _ hσn (by have:=Hle.out;omega) HPa.out (HKa.out G1 163 _ (by decide) (by decide) HB1.out));obtain⟨l2,Hl2⟩:=Qi (lx++[(rev (F σ) (L σ),L σ)]);rw[Hl2.out] at CPs
     have hll:Hid (l2=l++VK L n1 D n2 (S.take (j+1))):=by
      show _=_;rw[Htk.out,<-Hl2.out,Hl.out,List.append_assoc]
      congr 2
      show _=[symE L n1 tb.toNat];rw[HsE.out,Hσ.out]
     have hlen2:Hid (encN l2<=encN l+60*(j+1)):=by
      show _<=_;rw[<-Hl2.out,Vq];have:=Hle.out;have:=HL15.out σ;omega
     clear hok;go_wp2_with fail;refine CPs.out.mono ?_;rintro e w8 ⟨rfl,v8,hp8,hk8⟩;have HP8:=Qf hp8;have HK8:=Qf (HKa.out.trans hk8);clear hp8 hk8 CPs;go_wp2_with fail;go_roundw
     case rel=>exact⟨j+1,v8,l2,by omega,by go_num,HP8,hll,hlen2,HK8⟩
     simp[intOf];omega
   have d1:(tl==0)=false:=by simp;exact hl0
   obtain⟨_,htb,h3,h258,hd1,hd32,hs1,hs2⟩:=hok.resolve_left fun h=>hl0 h.1;obtain⟨n,rfl⟩:∃n:Nat,tl=(n:Int):=⟨tl.toNat,by dsimp only at h3;omega⟩;obtain⟨dd,rfl⟩:∃n:Nat,td=(n:Int):=⟨td.toNat,by dsimp only at hd1;omega⟩;dsimp only at h3 h258 hd1 hd32;have CS1:=Qf (fun W=>XB false n ⟨by decide,by show 3<=n;omega⟩ (by omega) W);have CS2:=Qf (fun W=>XB true dd ⟨by decide,by show 1<=dd;omega⟩ (by omega) W);have e1:symF false n 30=lsym ⟨tb,(n:Int),(dd:Int)⟩:=YdD n;have e2:symF true dd 30=dsym ⟨tb,(n:Int),(dd:Int)⟩:=rfl;rw[e1] at CS1;rw[e2] at CS2;obtain⟨i1,Hi1⟩:=Qi (lsym ⟨tb,(n:Int),(dd:Int)⟩);obtain⟨i2,Hi2⟩:=Qi (dsym ⟨tb,(n:Int),(dd:Int)⟩);rw[Hi1.out] at CS1 hs1;rw[Hi2.out] at CS2 hs2;have hlims:=JQ ⟨tb,(n:Int),(dd:Int)⟩ ⟨by dsimp only;omega,by dsimp only;omega,by dsimp only;omega,by dsimp only;omega⟩;rw[Hi1.out,Hi2.out] at hlims;have hm1:=(UK false i1 (by omega)).2;have hm2:=(UK true i2 (by omega)).2;obtain⟨⟨b1,m1⟩,Hb1⟩:∃R,Hid (Yl false (i1:Int)=R):=⟨_,Qf (Eq.refl _)⟩;obtain⟨⟨b2,m2⟩,Hb2⟩:∃R,Hid (Yl true (i2:Int)=R):=⟨_,Qf (Eq.refl _)⟩;rw[Hb1.out] at CS1 hm1;rw[Hb2.out] at CS2 hm2;dsimp only at CS1 CS2 hm1 hm2;obtain⟨x1,Hx1⟩:=Qi (n-b1);obtain⟨x2,Hx2⟩:=Qi (dd-b2)
   have hx1:x1<4294967296:=by have:=Hx1.out;omega
   have hx2:x2<4294967296:=by have:=Hx2.out;omega
   rw[Hx1.out] at CS1;rw[Hx2.out] at CS2;obtain⟨q,Hq⟩:=Qi (257+i1);have hqv:=Hq.out;have v1:IntKind.i64.wrap ((257:Int)+(i1:Int))=(q:Int):=by rw[IntKind.wrap_i64];omega
   have hqn:q<n1:=by omega
   obtain⟨la,Hla⟩:=Qi (lx++[(rev (F q) (L q),L q)]);obtain⟨lb,Hlb⟩:=Qi (la++[(x1,m1)]);obtain⟨lc,Hlc⟩:=Qi (lb++[(rev (E i2) (D i2),D i2)]);obtain⟨ld,Hld⟩:=Qi (lc++[(x2,m2)]);have g0:=Hle.out
   have ga:encN la<=encN lx+15:=by rw[<-Hla.out,Vq];have:=HL15.out q;omega
   have gb:encN lb<=encN la+14:=by rw[<-Hlb.out,Vq];omega
   have gc:encN lc<=encN lb+15:=by rw[<-Hlc.out,Vq];have:=HD15.out i2;omega
   have gd:encN ld<=encN lc+14:=by rw[<-Hld.out,Vq];omega
   have Hga:Hid (encN la<=900000000):=by show _<=_;omega
   have Hgb:Hid (encN lb<=900000000):=by show _<=_;omega
   have Hgc:Hid (encN lc<=900000000):=by show _<=_;omega
   have Hgx:Hid (encN lx<=900000000):=by show _<=_;omega
   have hlen2:Hid (encN ld<=encN l+60*(j+1)):=by show _<=_;omega
   have hll:Hid (ld=l++VK L n1 D n2 (S.take (j+1))):=by
    show _=_;have ht:tokE L n1 D n2 ⟨tb,(n:Int),(dd:Int)⟩=[symE L n1 (257+lsym ⟨tb,(n:Int),(dd:Int)⟩),(n-(Yl false (lsym ⟨tb,(n:Int),(dd:Int)⟩:Nat)).1,(Yl false (lsym ⟨tb,(n:Int),(dd:Int)⟩:Nat)).2),symE D n2 (dsym ⟨tb,(n:Int),(dd:Int)⟩),(dd-(Yl true (dsym ⟨tb,(n:Int),(dd:Int)⟩:Nat)).1,(Yl true (dsym ⟨tb,(n:Int),(dd:Int)⟩:Nat)).2)]:=if_neg (by show ¬(n:Int)=0;omega);rw[Htk.out,<-Hld.out,<-Hlc.out,<-Hlb.out,<-Hla.out,Hl.out,ht,HsE.out,HsD.out,Hi1.out,Hi2.out,Hb1.out,Hb2.out,Hq.out];dsimp only;rw[Hx1.out,Hx2.out];simp only[List.append_assoc,List.cons_append,List.nil_append]
   obtain⟨Bx,HBx⟩:=Qi (wr.heap.size);clear hok htb hlims hqv g0 ga gb gc gd e1 e2 ht0 h3 h258 hd1 hd32;go_wp2_with fail;obtain⟨W9,HW9⟩:=Qi ((wr.alloc (.cells #[.int .u8 (tb.toNat:Int),.int .i64 (n:Int),.int .i64 (dd:Int)] 119)));rw[HW9.out] at HPa HBA HKa ht1 ⊢;rw[HBx.out] at HBA ht1 ⊢;clear HW9 HBx;refine(CS1.out _).mono ?_;rintro e wa ⟨rfl,na,rfl⟩;have HPb:=Qf (HPa.out.drewN na);have HTb:=Qf (HBA.out.drewN na);have HKb:=Qf (HKa.out.trans (KeepT.below (Yh (Below.refl _ _) na)));have tc2:(W9.drewN na).cell? ⟨Bx,2,none⟩=some (.int .i64 (dd:Int)):=HTb.out.cell 2;clear HPa HBA HKa ht1;go_wp2_with fail;refine(CP1.out q v lx _ hqn Hgx.out HPb.out (HKb.out G1 163 _ (by decide) (by decide) HB1.out)).mono ?_;rw[Hla.out];rintro e wb ⟨rfl,vb,hpb,hkb⟩;have HPc:=Qf hpb;have HTc:=Qf (hkb Bx 119 _ (by decide) (by decide) HTb.out);have HKc:=Qf (HKb.out.trans hkb);clear hpb hkb HPb HTb HKb tc2;go_wp2_with fail;refine(CPu.out vb la x1 m1 (m1:Int) hx1 (.inr (.inl ⟨rfl,by omega⟩)) Hga.out _ HPc.out).mono ?_;rw[Hlb.out];rintro e wc ⟨rfl,vc,hpb,hkb⟩;have HPd:=Qf hpb;have HTd:=Qf (hkb Bx 119 _ (by decide) (by decide) HTc.out);have HKd:=Qf (HKc.out.trans hkb);have tc2:wc.cell? ⟨Bx,2,none⟩=some (.int .i64 (dd:Int)):=HTd.out.cell 2;clear hpb hkb HPc HTc HKc;go_wp2_with fail;refine(CS2.out _).mono ?_;rintro e wd ⟨rfl,nb,rfl⟩;have HPe:=Qf (HPd.out.drewN nb);have HKe:=Qf (HKd.out.trans (KeepT.below (Yh (Below.refl _ _) nb)));clear HPd HTd HKd tc2;go_wp2_with fail;refine(CP2.out i2 vc lb _ hs2 Hgb.out HPe.out (HKe.out G2 163 _ (by decide) (by decide) HB2.out)).mono ?_;rw[Hlc.out];rintro e we ⟨rfl,ve,hpb,hkb⟩;have HPf:=Qf hpb;have HKf:=Qf (HKe.out.trans hkb);clear hpb hkb HPe HKe;go_wp2_with fail;refine(CPu.out ve lc x2 m2 (m2:Int) hx2 (.inr (.inl ⟨rfl,by omega⟩)) Hgc.out _ HPf.out).mono ?_;rw[Hld.out];rintro e wf ⟨rfl,vf,hpb,hkb⟩;have HPg:=Qf hpb;have HKg:=Qf (HKf.out.trans hkb);clear hpb hkb HPf HKf;go_wp2_with fail;go_roundw
   case rel=>exact⟨j+1,vf,ld,by omega,by go_num,HPg,hll,hlen2,HKg⟩
   simp[intOf];omega
 obtain rfl:j=M:=by omega
 have dj:decide ((j:Int)<(j:Int))=false:=Qh (by omega);have hfull:S.take j=S:=by rw[List.take_of_length_le (by rw[HM.out];exact Qa _)]
 have CPs:=Qf (CP1.out 256 v lx wr (by omega) (by have:=Hle.out;omega) HPl.out (HK.out G1 163 _ (by decide) (by decide) HB1.out))
 have hlE:lx++[(rev (F 256) (L 256),L 256)]=l++VK L n1 D n2 S++[symE L n1 256]:=by
  rw[Hl.out,hfull,HsE.out]
 rw[hlE] at CPs;clear hlE hfull;go_wp2_with fail;refine CPs.out.mono ?_;rintro e w8 ⟨rfl,v8,hp8,hk8⟩;have HP8:=Qf hp8;have HK8:=Qf (HK.out.trans hk8);clear hp8 hk8 CPs;go_wp2_with fail
 (try simp only[Exit.inBlock,Exit.then]);refine bodyPost_end (results_none rfl _ _ _) rfl ?_
 exact⟨rfl,v8,HP8.out,HK8.out⟩
theorem Yhq {most:Int} {S:List Tok} {T:List UInt8} (h:texp most [] S=(T,0)):∀t ∈ S,TokW 286 30 t/\TokW 288 32 t:=by
 intro t ht;rcases Ycr most S [] T h t ht with⟨a,b⟩|⟨a,b,c⟩
 . have:=t.b.toNat_lt
   exact⟨.inl ⟨a,b,by omega⟩,.inl ⟨a,b,by omega⟩⟩
 have:=JQ t c;exact⟨.inr ⟨a,b,c.1,c.2.1,c.2.2.1,c.2.2.2,by omega,by omega⟩,.inr ⟨a,b,c.1,c.2.1,c.2.2.1,c.2.2.2,by omega,by omega⟩⟩
theorem Vk (m:Nat->Int) (n:Nat) (hn:n<=320) (h15:∀i,i<n->0<=m i/\m i<=15) (hf:Fits (parts (lens m) n) (YG (lens m) n)) (a:Option Addr) (cap:Nat) (w:World) (hr:IRow w a n m) :
 Calls Tryz.prog 63 #[.slice a n cap] w fun e w'=>∃g,e=.returned (.tuple #[.slice (some ⟨g,0,none⟩) n n,.int .i64 0])/\Blk w' g 163 (YC n (YD (lens m) n) (lens m))/\Below w.heap.size w w':=by
 refine(YaI a n cap m (by omega) w hr).mono ?_;rintro e w' ⟨hb,⟨h1,_⟩|⟨_,⟨i,h1,h2⟩,_⟩|⟨_,_,h1,_⟩|⟨_,_,_,v,rfl,g,rfl,hg,hB⟩⟩
 . omega
 . exact absurd (h15 i h1) h2
 . exact absurd hf h1
 exact⟨g,rfl,hB,hb⟩
theorem UW (i:Nat):0<=fixL i/\fixL i<=15:=by
 unfold fixL
 (repeat' split)<;>omega
set_option maxHeartbeats 16000000 in
theorem Ygg (S:List Tok) (hS:S.length<=4000) (b off cap:Nat) (hcap:S.length<=cap) (ht:∀t ∈ S,TokW 288 32 t) (w:World) (hr:TkRow w (some ⟨b,off,none⟩) S) :
 Calls Tryz.prog 41 #[.slice (some ⟨b,off,none⟩) S.length cap,.bool true] w fun e w'=>e=.returned (.string (encB (fixE S)))/\Below w.heap.size w w':=by
 have CL:=Qf Xe;have CC1:=Qf (Vk fixL 288 (by decide) (fun i _=>UW i) (by decide +kernel));have CC2:=Qf (Vk (fun _=>5) 32 (by decide) (fun i _=>by omega) (by decide +kernel));obtain⟨L,HL⟩:=Qi (lens fixL);obtain⟨D,HD⟩:=Qi ((lens fun _=>5))
 have hL15:∀i,L i<=15:=by rw[<-HL.out];exact fun i=>Jg fixL (i+1) Yd8 i (Nat.lt_succ_self i)
 have hD15:∀i,D i<=15:=by rw[<-HD.out];exact fun i=>by show 5<=15;decide
 have hF32:∀i,i<288->YD L 288 i<4294967296:=by
  rw[<-HL.out];exact fun i hi=>Qb (X1 _ _ i hi codes_fix.l15 codes_fix.lp) (Qe (Nat.pow_le_pow_right (by decide) (codes_fix.l15 i hi)) (by decide))
 have hE32:∀i,i<32->YD D 32 i<4294967296:=by
  rw[<-HD.out];exact fun i hi=>Qb (X1 _ _ i hi codes_fix.d15 codes_fix.dp) (Qe (Nat.pow_le_pow_right (by decide) (codes_fix.d15 i hi)) (by decide))
 have HfE:Hid ([(1,1),(1,2)]++VK L 288 D 32 S++[symE L 288 256]=fixE S):=by
  show _=_;rw[<-HL.out,<-HD.out];rfl
 have hlenE:encN (fixE S)<=300000:=by
  have h1:=YbE L 288 D 32 S hL15 hD15 (fun t h=>(ht t h).ok);rw[<-HfE.out,Y0,Y0];have h2:=hL15 256;have e1:encN [(1,1),(1,2)]=3:=rfl;have e2:encN [symE L 288 256]=L 256+0:=rfl;omega
 rw[HL.out] at CC1;rw[HD.out] at CC2
 have CBody:Hid (∀(W:World) (v:Value) (G1 G2:Nat),PK w W w.heap.size v [(1,1),(1,2)]->Blk W G1 163 (YC 288 (YD L 288) L)->Blk W G2 163 (YC 32 (YD D 32) D)->
  Calls Tryz.prog 64 #[.pointer (some ⟨w.heap.size,0,none⟩),.slice (some ⟨b,off,none⟩) S.length cap,.slice (some ⟨G1,0,none⟩) 288 288,.slice (some ⟨G2,0,none⟩) 32 32] W fun e W'=>e=.returned (.tuple #[])/\∃v',PK w W' w.heap.size v' (fixE S)/\KeepT W W'):=by
  intro W v G1 G2 h1 h2 h3;rw[<-HfE.out];exact Yci w w.heap.size v [(1,1),(1,2)] S (some ⟨b,off,none⟩) cap G1 288 288 G2 32 32 L D (by omega) ⟨by decide,by decide⟩ (by decide) hL15 hD15 hF32 hE32 (by decide) ht W h1 hr h2 h3
 obtain⟨M,HM⟩:=Qi (S.length);rw[HM.out] at CBody hS hcap ⊢;obtain⟨F1,HF1⟩:=Qi (YC 288 (YD L 288) L);obtain⟨F2,HF2⟩:=Qi (YC 32 (YD D 32) D);rw[HF1.out] at CC1 CBody;rw[HF2.out] at CC2 CBody;obtain⟨FE,HFE⟩:=Qi (fixE S);rw[HFE.out] at CBody hlenE ⊢;have HP0:=Qf (PK.new w);obtain⟨P,HP⟩:=Qi (w.heap.size);rw[HP.out] at CBody HP0
 have CP1:Hid (∀W v,PK w W P v []->Calls Tryz.prog 58 #[.pointer (some ⟨P,0,none⟩),.int .u32 1,.int .i64 1] W fun e W'=>e=.returned (.tuple #[])/\∃v',PK w W' P v' [(1,1)]/\KeepT W W'):=
  fun W v h=>XX w P v [] 1 1 1 (by decide) (.inr (.inl ⟨rfl,by decide⟩)) (by decide) W h
 have CP2:Hid (∀W v,PK w W P v [(1,1)]->Calls Tryz.prog 58 #[.pointer (some ⟨P,0,none⟩),.int .u32 1,.int .i64 2] W fun e W'=>e=.returned (.tuple #[])/\∃v',PK w W' P v' [(1,1),(1,2)]/\KeepT W W'):=
  fun W v h=>XX w P v [(1,1)] 1 2 2 (by decide) (.inr (.inl ⟨rfl,by decide⟩)) (by decide) W h
 have CAl:=Qf (fun W v h=>Yfu w P v FE (by omega) W h)
 have hmin:∀W,Sem.run Tryz.prog (Builtin.min_ #[3,3] 3 #[.int .i64 (M:Int),.int .i64 4000]) W=.ok (.int .i64 (M:Int)) W:=fun W=>by
  have e:(if (4000:Int)<(M:Int) then 4000 else (M:Int))=(M:Int):=by rw[if_neg (by omega)]
  show Result.ok (Value.int .i64 (if (4000:Int)<(M:Int) then 4000 else (M:Int))) W=_;rw[e]
 have dM:((M:Int)==(M:Int))=true:=by simp
 have hMc:(M:Int)<=(cap:Int):=by omega
 clear hL15 hD15 hF32 hE32 hr ht hcap;go_enter Tryz.func41,Tryz.ntmps41;go_wp2_with fail;rw[HP.out];refine(CL.out _).mono ?_;rintro e w3 ⟨g1,c1,g2,rfl,hI1,hI2,-,-,hb3⟩;have HI1:=Qf hI1;have HI2:=Qf hI2;have HP3:=Qf (HP0.out.below hb3);clear hI1 hI2 hb3 HP0;go_wp2_with fail;refine(CC1.out _ _ _ HI1.out).mono ?_;rintro e w4 ⟨G1,rfl,hk1,hb4⟩;have HI2b:=Qf (HI2.out.below hb4);have HP4:=Qf (HP3.out.below hb4);have HK1:=Qf hk1;clear hk1 hb4 HP3 HI1 HI2;go_wp2_with fail;refine(CC2.out _ _ _ HI2b.out).mono ?_;rintro e w5 ⟨G2,rfl,hk2,hb5⟩;have HP5:=Qf (HP4.out.below hb5);have HK1b:=Qf (HK1.out.below hb5 HK1.out.lt);have HK2:=Qf hk2;clear hk2 hb5 HP4 HI2b HK1;go_wp2_with fail
 go_loopw [0] (fun l_ wr=>l_=.slice (some ⟨b,off,none⟩) M cap/\Hid (wr=w5)) (fun _ _=>0)
 case atStart=>exact⟨rfl,Qf (Eq.refl _)⟩
 obtain⟨rfl,hwr⟩:=hrel;have hw2:=hwr.out;subst hw2;clear hwr;go_wp2_with fail;refine(CP1.out _ _ HP5.out).mono ?_;rintro e w6 ⟨rfl,v6,hp6,hk6⟩;have HP6:=Qf hp6;have HK6:=Qf hk6;clear hp6 hk6;go_wp2_with fail;refine(CP2.out _ _ HP6.out).mono ?_;rintro e w7 ⟨rfl,v7,hp7,hk7⟩;have HP7:=Qf hp7;have HK7:=Qf (HK6.out.trans hk7);clear hp7 hk7;go_wp2_with fail;refine(CBody.out _ v7 G1 G2 HP7.out (HK7.out G1 163 _ (by decide) (by decide) HK1b.out) (HK7.out G2 163 _ (by decide) (by decide) HK2.out)).mono ?_;rintro e w8 ⟨rfl,v8,hp8,-⟩;have HP8:=Qf hp8;clear hp8;go_wp2_with fail
 all_goals
  refine(CAl.out _ v8 HP8.out).mono ?_;rintro e w9 ⟨rfl,hb9⟩;have HB9:=Qf ((HP8.out.below hb9).2.1);clear hb9;go_wp2_with fail;go_ret;exact⟨rfl,HB9.out⟩
end Go.Proofs.YthehocmfpoglgaaGreat
