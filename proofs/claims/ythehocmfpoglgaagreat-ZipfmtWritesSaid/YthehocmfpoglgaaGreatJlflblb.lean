/- Texts joined: JoinW Infl Opn Put Rfa RefCrc OwnI Kinds Fit4 Code4 Table4 BRow Ref3 RNext4 Row3 Seen PieA Whole Fix6 Rfb Rfd. Conditions: each theorem says its own. -/
import Derived.Lib.AppendStr
import Derived.Deep.Cut
import Derived.BigQuiet
import Derived.Laws.AppendOwnNone
import Derived.StillTailTactics
import Derived.Laws.ResultCell
import Derived.Test.YthehocmfpoglgaaGreatRBlkJ
import Derived.Test.YthehocmfpoglgaaGreatJddomja
import Derived.Test.YthehocmfpoglgaaGreatJfbdmaf
import Derived.Test.YthehocmfpoglgaaGreatJikjhbb
import Derived.Test.YthehocmfpoglgaaGreatRLenKJ
namespace Go.Proofs.YthehocmfpoglgaaGreat
open Go.RowKit
set_option maxRecDepth 100000
theorem YfM (l:List UInt8):Lib.strCells ⟨l.toArray⟩=Vg l:=by
 unfold Lib.strCells Vg;rfl
theorem Ybh (l:List LBk) (k:Nat) (hk:k<l.length):(YF l)[k*3]?=some (.int .i64 ((l[k]).b.kind:Int))/\(YF l)[k*3+1]?=some (.string ⟨(l[k]).b.bytes.toArray⟩)/\(YF l)[k*3+2]?=some (.slice (l[k]).a (l[k]).b.toks.length (l[k]).cap):=by
 induction l generalizing k with
 |nil=>cases hk
 |cons x r ih=>
  have e:YF (x::r)=.int .i64 (x.b.kind:Int)::.string ⟨x.b.bytes.toArray⟩::.slice x.a x.b.toks.length x.cap::YF r:=rfl;rw[e]
  cases k with
  |zero=>exact⟨rfl,rfl,rfl⟩
  |succ k=>
   rw[List.length_cons] at hk;have:=ih k (by omega);rw[show(k+1)*3=k*3+1+1+1 by omega];simp only[List.getElem?_cons_succ,List.getElem_cons_succ];exact this
theorem BS.form {w0 wt:World} {BB:Nat} {v:Value} {l:List LBk} (h:BS w0 BB v l wt):∃a cap,Hid (v=.slice a l.length cap)/\∀k (hk:k<l.length),∃G,a=some ⟨G,0,none⟩/\G<wt.heap.size/\
 wt.cell? ⟨G,k*3,none⟩=some (.int .i64 ((l[k]).b.kind:Int))/\wt.cell? ⟨G,k*3+1,none⟩=some (.string ⟨(l[k]).b.bytes.toArray⟩)/\wt.cell? ⟨G,k*3+2,none⟩=some (.slice (l[k]).a (l[k]).b.toks.length (l[k]).cap):=by
 have hlt:=World.ownsRow.lt h.own;have hc:=fun g hg=>World.ownsRow.cells h.own (g:=g) hg;rcases h.own.2 with⟨rfl,h0⟩|⟨G,cap,cur,rfl,_⟩
 . exact⟨none,0,by show _=_;rw[h0],fun k hk=>by omega⟩
 refine⟨_,_,Qf rfl,fun k hk=>⟨G,rfl,(hlt G rfl).2,?_⟩⟩;obtain⟨c0,c1,c2⟩:=Ybh l k hk
 have e0:∀j,(⟨G,0,none⟩:Addr).add j=⟨G,j,none⟩:=fun j=>by unfold Addr.add;split<;>simp_all
 refine⟨?_,?_,?_⟩
 . have:=hc G rfl (k*3) _ c0;rwa [e0] at this
 . have:=hc G rfl (k*3+1) _ c1;rwa [e0] at this
 have:=hc G rfl (k*3+2) _ c2;rwa [e0] at this
set_option maxHeartbeats 32000000 in
theorem YkE (w0:World) (BB:Nat) (v:Value) (l:List LBk) (w:World) (hS:BS w0 BB v l w) (hok:Uq 0 (l.map LBk.b)) (hlen:X8 (l.map LBk.b)<=1000000) (hl:l.length<=1000000) (htl:∀x ∈ l,x.b.toks.length<=1000000) :
 Calls Tryz.prog 51 #[v] w fun r w'=>r=.returned (.string ⟨(X5 [] (l.map LBk.b)).toArray⟩)/\Below w.heap.size w w':=by
 obtain⟨va,vc,Hv,hget⟩:=hS.form;have hv:=Hv.out;subst hv;have Hget:=Qf hget;have Htk:=Qf hS.tk;have Htl:=Qf htl;obtain⟨R,HR⟩:=Qi (X5 [] (l.map LBk.b));obtain⟨N,HN⟩:=Qi (l.length);rw[HR.out];rw[HN.out] at hl ⊢;have HB0:=Qf (Below.refl w.heap.size w);have HO0:=Qf (OwnB.nil w w.heap.size);have Hok:=Qf hok;clear hget hS Hv hok htl;go_enter Tryz.func51,Tryz.ntmps51;go_wp2_with fail
 go_loopw [3,10] (fun vo k_ wr=>∃(k:Nat) (o:List UInt8),k<=N/\k_=.int .i64 (k:Int)/\o.length+X8 ((l.map LBk.b).drop k)<=1000000/\Hid (X5 o ((l.map LBk.b).drop k)=R)/\Hid (Uq o.length ((l.map LBk.b).drop k))/\Hid (OwnB wr w.heap.size vo o)/\Hid (Below w.heap.size w wr)) (fun _ i _=>N-(intOf i).toNat)
 case atStart=>exact⟨0,[],by omega,rfl,by simpa using hlen,HR,Hok,HO0,HB0⟩
 clear HB0 HO0 HR Hok;obtain⟨k,o,hk,rfl,hol,HR,Hok,HO,HB⟩:=hrel;by_cases hlt:k<N
 . have hkl:k<l.length:=by rw[HN.out];exact hlt
   obtain⟨G,rfl,hG,c0,c1,c2⟩:=Hget.out k hkl;have hmem:=List.getElem_mem hkl;have hTk:=(Htk.out _ hmem).1;have hTl:=Htl.out _ hmem
   have hdrop:(l.map LBk.b).drop k=(l[k]).b::(l.map LBk.b).drop (k+1):=by
    rw[List.drop_eq_getElem_cons (by simpa using hkl)];simp
   obtain⟨x,Hx⟩:=Qi (l[k]);rw[Hx.out] at c0 c1 c2 hTk hTl hdrop;rw[hdrop] at hol HR Hok;obtain⟨⟨kd,bl,S⟩,ta,tc⟩:=x;simp only at c0 c1 c2 hTk hTl;obtain⟨M,HM⟩:=Qi (S.length);rw[HM.out] at c2 hTl
   have hol2:o.length+bl.length+Vh S+X8 ((l.map LBk.b).drop (k+1))<=1000000:=by
    have e:X8 ((⟨kd,bl,S⟩:Bk)::(l.map LBk.b).drop (k+1))=(bl.length+Vh S)+X8 ((l.map LBk.b).drop (k+1)):=rfl;rw[e] at hol;omega
   have HR2:Hid (X5 (UT (o++bl) S) ((l.map LBk.b).drop (k+1))=R):=HR.out;have Hok1:Hid (Xk (o.length+bl.length) S):=Hok.out.1;have Hok2:Hid (Uq (o.length+(bl.length+Vh S)) ((l.map LBk.b).drop (k+1))):=Hok.out.2;obtain⟨rest,Hrest⟩:=Qi ((l.map LBk.b).drop (k+1));rw[Hrest.out] at hol2 HR2 Hok2;have d0:=(HB.out.cell (p:=⟨G,k*3,none⟩) hG).trans c0;have d1:=(HB.out.cell (p:=⟨G,k*3+1,none⟩) hG).trans c1;have d2:=(HB.out.cell (p:=⟨G,k*3+2,none⟩) hG).trans c2;have HTk:=Qf hTk;obtain⟨ol,Hol⟩:=Qi (o.length);rw[Hol.out] at hol2 Hok1 Hok2;have dk:decide ((k:Int)<(N:Int))=true:=Qg (by omega);have hkI:(k:Int)<(N:Int):=by omega
   clear c0 c1 c2 hTk hol hdrop HR Hok Hx hmem hkl;go_upto_region 5 with(fail);have hB4:=Blk.new wr 144 #[.int .i64 (kd:Int),.string ⟨bl.toArray⟩,.slice ta M tc];have HB4:=Qf (HB.out.alloc HB.out.size (.cells #[.int .i64 (kd:Int),.string ⟨bl.toArray⟩,.slice ta M tc] 144));have HO4:=Qf (HO.out.below ((Below.refl wr.heap.size wr).alloc (Qa _) (.cells #[.int .i64 (kd:Int),.string ⟨bl.toArray⟩,.slice ta M tc] 144)) (Qa _));obtain⟨g4,Hg4⟩:=Qi (wr.heap.size);rw[Hg4.out] at hB4 ⊢;generalize wr.alloc (.cells #[.int .i64 (kd:Int),.string ⟨bl.toArray⟩,.slice ta M tc] 144)=w4 at *;clear d0 d1 d2 HB HO;obtain⟨av,cv,rfl⟩:=HO4.out.slice;rw[Hol.out] at HO4 ⊢;have q1:=hB4.cell 1;simp at q1;have HK4:=Qf hB4
   have hbz:(⟨bl.toArray⟩:ByteArray).size=bl.length:=by show bl.toArray.size=_;simp
   obtain⟨i0,hi,hz0,hz1,hz2⟩:=info_parts Yar;have hi':Tryz.prog.info? 5=some i0:=hi
   have hos:w4.ownsRow w.heap.size 5 1 (.slice av ol cv) ol (Vg o):=by
    have h:=HO4.out;unfold OwnB at h
    rwa [Hol.out] at h
   have hbsw:w.heap.size<=w4.heap.size:=HB4.out.size
   go_wp2_with (first
    |(at_builtin;go_must (refine Lib.wpList_append_own_string _ rfl (.tmp 14) (.tmp 16) 58 9 rfl w.heap.size 5 i0 Tryz.underlying58 Tryz.underlying9 hi' hz0 hz1 hz2 (.slice av ol cv) ol (Vg o) rfl hos ⟨bl.toArray⟩ rfl ?_ ?_ hbsw ?_;(rw[hbz];unfold maxLen;omega);(rw[hbz];omega);intro v5 w5 hown5 hg5 hn5;have Hb5:=Qf (HB4.out.trans (Yb hos hg5 hbsw));rw[hbz,YfM] at hown5;have HO5:=Qf hown5;have HK5:=Qf (HK4.out.grown hg5 (fun e=>by rcases X3 hos HK4.out (by decide) with h|h;(rw[h] at e;cases e);exact h e.symm));have k2:=HK5.out.cell 2;simp at k2;clear hown5 hg5 hn5 hos))
    |fail)
   obtain⟨Q,HQ⟩:=Qi (UT (o++bl) S);have hQl:=KP S (o++bl);rw[HQ.out,List.length_append,Hol.out] at hQl;have HQl:=Qf hQl;rw[HQ.out] at HR2
   have HO5b:Hid (OwnB w5 w.heap.size v5 (o++bl)):=by
    show OwnB _ _ _ _;unfold OwnB;rw[List.length_append,Hol.out,V8];exact HO5.out
   have hl5:(o++bl).length=ol+bl.length:=by rw[List.length_append,Hol.out]
   have HT0:Hid (Xk (o++bl).length (S.drop 0)):=by rw[hl5];exact Hok1.out
   have hL0:(o++bl).length+Vh (S.drop 0)<=1000000:=by rw[hl5,List.drop_zero];omega
   clear HO5 HK5 k2 HK4 HB4 HO4 hB4 q1 Hok1 hl5 hQl
   go_loopw [3,21] (fun vo j_ wx=>∃(j:Nat) (o:List UInt8),j<=M/\j_=.int .i64 (j:Int)/\o.length+Vh (S.drop j)<=1000000/\Hid (UT o (S.drop j)=Q)/\Hid (Xk o.length (S.drop j))/\Hid (OwnB wx w.heap.size vo o)/\Hid (Below w.heap.size w wx)) (fun _ i _=>M-(intOf i).toNat)
   case atStart=>exact⟨0,o++bl,by omega,rfl,hL0,HQ,HT0,HO5b,Hb5⟩
   clear HO5b Hb5 HQ HT0 hL0 Hol;obtain⟨j,o,hj,rfl,hjl,HQ,HT,HO,HB⟩:=hrel;by_cases hltj:j<M
   . have hjs:j<S.length:=by rw[HM.out];exact hltj
     obtain⟨b,off,rfl,hbl,c0,c1,c2⟩:=(HTk.out.below HB.out (Qa _)).get j hjs;have hd:=Yi5 hjs;obtain⟨t,Ht⟩:=Qi (tk S j);rw[Ht.out] at c0 c1 c2 hd;rw[hd] at HQ HT hjl;obtain⟨tb,tl,td⟩:=t;simp only at c0 c1 c2;have htb:tb.toNat<256:=UInt8.toNat_lt tb;have HQ2:Hid (UT (tout o ⟨tb,tl,td⟩) (S.drop (j+1))=Q):=HQ.out;have hok1:YjL o.length ⟨tb,tl,td⟩:=HT.out.1;have HT2:Hid (Xk (o.length+tlen ⟨tb,tl,td⟩) (S.drop (j+1))):=HT.out.2
     have hjl2:o.length+tlen ⟨tb,tl,td⟩+Vh (S.drop (j+1))<=1000000:=by
      have e:Vh ((⟨tb,tl,td⟩:Tok)::S.drop (j+1))=tlen ⟨tb,tl,td⟩+Vh (S.drop (j+1)):=rfl;rw[e] at hjl;omega
     obtain⟨ol,Hol⟩:=Qi (o.length);rw[Hol.out] at hok1 HT2 hjl2;obtain⟨rs,Hrs⟩:=Qi (S.drop (j+1));rw[Hrs.out] at HQ2 HT2 hjl2;have dj:decide ((j:Int)<(M:Int))=true:=Qg (by omega);have hjI:(j:Int)<(M:Int):=(by omega);clear hd HQ HT hjl hjs;go_upto_region 9 with(fail);have hB4:=Blk.new wr 119 #[.int .u8 (tb.toNat:Int),.int .i64 tl,.int .i64 td];have HB4:=Qf (HB.out.alloc HB.out.size (.cells #[.int .u8 (tb.toNat:Int),.int .i64 tl,.int .i64 td] 119));have HO4:=Qf (HO.out.below ((Below.refl wr.heap.size wr).alloc (Qa _) (.cells #[.int .u8 (tb.toNat:Int),.int .i64 tl,.int .i64 td] 119)) (Qa _));obtain⟨g5,Hg5⟩:=Qi (wr.heap.size);rw[Hg5.out] at hB4 ⊢;generalize wr.alloc (.cells #[.int .u8 (tb.toNat:Int),.int .i64 tl,.int .i64 td] 119)=w6 at *;clear c0 c1 c2 HB HO;obtain⟨av,cv,rfl⟩:=HO4.out.slice;rw[Hol.out] at HO4 ⊢;have g0:=hB4.cell 0;have g1:=hB4.cell 1;have g2:=hB4.cell 2;simp at g0 g1 g2;by_cases hl0:tl=0
     . subst hl0
       have hto:tout o ⟨tb,0,td⟩=o++[tb]:=(by unfold tout;rw[if_pos rfl]);have htlen:tlen ⟨tb,0,td⟩=1:=(by unfold tlen;rw[if_pos rfl]);rw[hto] at HQ2;rw[htlen] at HT2 hjl2;have hos:=HO4.out;have hbsw:w.heap.size<=_:=HB4.out.size;have hl1:(o++[tb]).length=ol+1:=(by rw[List.length_append,Hol.out];rfl);have HT3:Hid (Xk (o++[tb]).length rs):=(by rw[hl1];exact HT2.out);have hjl3:(o++[tb]).length+Vh rs<=1000000:=(by rw[hl1];exact hjl2);clear hto htlen HT2 hl1
       go_wp2_with (first
        |(at_builtin;go_must (refine VZ _ rfl (.tmp 28) (.tmp 31) rfl w.heap.size (.slice av ol cv) o (tb.toNat:Int) hos rfl rfl rfl ?_ ?_ ?_ hbsw ?_;omega;omega;(rw[Hol.out];omega);intro v5 w5 hown5 hb5;have HO5:=Qf hown5;have Hb5:=Qf (HB4.out.trans hb5);clear hown5 hb5 hos))
        |fail)
       go_roundw
       case rel=>
        refine⟨j+1,o++[tb],by omega,by go_num,?_,?_,?_,?_,Hb5⟩
        . rw[Hrs.out];exact hjl3
        . rw[Hrs.out];exact HQ2
        . rw[Hrs.out];exact HT3
        show OwnB _ _ _ _;have h:=HO5.out;simp only[Int.toNat_natCast,UInt8.ofNat_toNat] at h;exact h
       simp[intOf];omega
     have dl0:(tl==0)=false:=(by simpa using hl0);obtain⟨hl1,hl300,hd1,hdo⟩:0<tl/\tl<=300/\1<=td/\td<=(ol:Int):=hok1.resolve_left hl0;obtain⟨L,rfl⟩:∃L:Nat,tl=(L:Int):=⟨tl.toNat,by omega⟩;obtain⟨D,rfl⟩:∃D:Nat,td=(D:Int):=⟨td.toNat,by omega⟩;have hto:tout o ⟨tb,(L:Int),(D:Int)⟩=rep D o L:=(by unfold tout;rw[if_neg hl0];rfl);have htlen:tlen ⟨tb,(L:Int),(D:Int)⟩=L:=(by unfold tlen;rw[if_neg hl0];rfl);rw[hto] at HQ2;rw[htlen] at HT2 hjl2;have dd1:decide ((D:Int)<1)=false:=Qh (by omega);obtain⟨dd2,dd2b⟩:=Ql (show D<=ol by omega);have HK0:=Qf hB4;clear hto htlen hok1 hl0;go_wp2_with fail
     go_loopw [3,45] (fun vo i wx=>∃q:Nat,q<=L/\i=.int .i64 (q:Int)/\Hid (OwnB wx w.heap.size vo (rep D o q))/\Hid (Below w.heap.size w wx)/\Hid (Blk wx g5 119 #[.int .u8 (tb.toNat:Int),.int .i64 (L:Int),.int .i64 (D:Int)])) (fun _ i _=>L-(intOf i).toNat)
     case atStart=>exact⟨0,by omega,rfl,HO4,HB4,HK0⟩
     clear HO4 HB4 HK0 hB4 g0 g1 g2;obtain⟨q,hq,rfl,HO,HB,HK⟩:=hrel;have hrl:=YhQ D o q;rw[Hol.out] at hrl;by_cases hltq:q<L
     . obtain⟨g,cg,rfl,_⟩:=HO.out.form (by omega)
       have hc:=HO.out.cell (ol+q-D) (by omega);obtain⟨y,Hy⟩:=Qi ((rep D o q)[ol+q-D]'(by omega))
       have Hsucc:Hid (rep D o (q+1)=rep D o q++[y]):=by
        show rep D o q++[_]=_;rw[hrl,<-Hy.out];simp[List.getD,show ol+q-D<(rep D o q).length by omega]
       rw[Hy.out] at hc;have hyl:y.toNat<256:=UInt8.toNat_lt y;obtain⟨qq,Hqq⟩:=Qi (ol+q-D)
       have hqi:((ol+q:Nat):Int)-(D:Int)=(qq:Int):=by have:=Hqq.out;omega
       have hql:qq<ol+q:=by have:=Hqq.out;omega
       rw[Hqq.out] at hc;rw[hrl] at HO ⊢;have k2:=HK.out.cell 2;simp at k2;have hgl:=HK.out.lt;obtain⟨PP,HPl⟩:=Qi (ol+q);rw[HPl.out] at hqi hql hrl HO ⊢
       have hPl:PP<=1000000:=by have:=HPl.out;omega
       have hos2:=HO.out;unfold OwnB at hos2;rw[hrl] at hos2;have hbsw:w.heap.size<=_:=HB.out.size;have HKx:=HK;clear HK
       go_wp2_with (first
        |(at_builtin;go_must (refine Ya _ rfl (.tmp 47) (.tmp 56) rfl Tryz.underlying58 Yar rfl (by decide) w.heap.size (.slice (some ⟨g,0,none⟩) PP cg) PP (Vg (rep D o q)) [.int .u8 (y.toNat:Int)] hos2 rfl ?_ rfl rfl rfl ?_ ?_ hbsw ?_;(intro z hz;simp at hz;subst hz;rfl);(unfold maxLen;omega);omega;intro v5 w5 hown5 hg5;have HO5:=Qf hown5;have Hb5:=Qf (HB.out.trans (Yb hos2 hg5 hbsw));have HK5:=Qf (HKx.out.grown hg5 (fun e=>by rcases X3 hos2 HKx.out (by decide) with h|h;(rw[h] at e;cases e);exact h e.symm));clear hown5 hg5 hos2))
        |fail)
       go_roundw
       case rel=>
        refine⟨q+1,by omega,by go_num,?_,Hb5,HK5⟩;show OwnB _ _ _ _;rw[Hsucc.out];unfold OwnB;rw[List.length_append,hrl,V8];exact HO5.out
       simp[intOf];omega
     obtain rfl:q=L:=(by omega);have k1:=HK.out.cell 1;simp at k1;have hl1:(rep D o q).length=ol+q:=hrl;have HT3:Hid (Xk (rep D o q).length rs):=(by rw[hl1];exact HT2.out);have hjl3:(rep D o q).length+Vh rs<=1000000:=(by rw[hl1];exact hjl2);clear HT2 hl1;go_wp2_with fail;go_roundw
     case rel=>exact⟨j+1,rep D o q,by omega,by go_num,(by rw[Hrs.out];exact hjl3),(by rw[Hrs.out];exact HQ2),(by rw[Hrs.out];exact HT3),HO,HB⟩
     simp[intOf];omega
   obtain rfl:j=M:=by omega
   have hoQ:o=Q:=by
    have h:=HQ.out;rw[List.drop_of_length_le (by rw[HM.out];exact Qa _)] at h;exact h
   have HoQ:=Qf hoQ;clear hoQ;go_wp2_with fail;go_roundw
   case rel=>
    refine⟨k+1,o,by omega,by go_num,?_,?_,?_,HO,HB⟩
    . rw[Hrest.out,HoQ.out,HQl.out];omega
    . rw[Hrest.out,HoQ.out];exact HR2
    rw[Hrest.out,HoQ.out,HQl.out];have:=Hok2.out
    rwa [Nat.add_assoc]
   simp[intOf];omega
 obtain rfl:k=N:=by omega
 have hRd:o=R:=by
  rw[<-HR.out,List.drop_of_length_le (by rw[List.length_map,HN.out];exact Qa _)];rfl
 have hcv:=Xh _ _ _ _ HO.out;have HRd:=Qf hRd;clear hRd;go_wp2_with fail;go_ret;exact⟨by rw[<-HRd.out];rfl,HB.out⟩
theorem Yd3 (s:ByteArray) (hs:s.size<=100000) (q most:Nat) (hq:q<=s.size) (hm:most<=65536) (u:ByteArray) (hu:s.extract q s.size=u) (w:World) :
 Calls Tryz.prog 34 #[.string s,.int .i64 (q:Int),.int .i64 (most:Int)] w fun r w'=>Below w.heap.size w w'/\
  (
   (∃e,e ≠ 0/\Kl u most=.error e/\r=.returned (.tuple #[.string ⟨#[]⟩,.int .i64 0,.int .i64 (e:Int)]))\/
   (∃bs p z,Kl u most=.ok (bs,sg u p z)/\p<=8*u.size/\r=.returned (.tuple #[.string ⟨(X5 [] bs).toArray⟩,.int .i64 (((p+7)/8:Nat):Int),.int .i64 0]))):=by
 have CB:=Qf (Yjl s hs q most hq hm w);have hus:u.size<=100000:=by rw[<-hu,ByteArray.size_extract];omega
 rw[hu] at CB;obtain⟨RES,HRES⟩:=Qi (Kl u most);have e0:VJ most (8*u.size+1) (sg u 0 0) []=RES:=HRES.out;rw[e0] at CB;rw[HRES.out];clear hu e0;go_enter Tryz.func34,Tryz.ntmps34;go_wp2_with fail;refine CB.out.mono ?_;rintro r w1 ⟨hb,⟨e,he,hr,rfl⟩|⟨l,p,z,v,BB,hr,hp,hz,rfl,hBB,hS⟩⟩
 . have Hb:=Qf hb
   have Hr:=Qf hr;have de:((e:Int)==0)=false:=by simp;omega
   have de2:((e:Int)!=0)=true:=by simp;omega
   clear hb hr CB;go_wp2_with fail
   go_ret3
   exact⟨Hb.out,.inl ⟨e,he,Hr.out,rfl⟩⟩
 have Hb:=Qf hb;have Hr:=Qf hr;have ho:=HRES.out.trans hr;obtain⟨k1,k2,k3,_⟩:=Yb6 ho;have k4:=KC _ (show VJ most (8*u.size+1) (sg u 0 0) []=_ from ho);have k5:=Ybw _ _ k1;have k6:X8 (l.map LBk.b)<=1000000:=by rw[<-k2];omega
 have k7:l.length<=1000000:=by
  rw[List.length_map] at k4;have e1:(sg u 0 0).n=8*u.size:=rfl;have e2:([]:List Bk).length=0:=rfl;omega
 have k8:∀x ∈ l,x.b.toks.length<=1000000:=fun x hx=>Qe (k5 x.b (List.mem_map_of_mem hx)) k6;have CJ:=Qf (YkE w BB v l w1 hS k1 k6 k7 k8);obtain⟨T,HT⟩:=Qi ((⟨(X5 [] (l.map LBk.b)).toArray⟩:ByteArray));rw[HT.out] at CJ;obtain⟨pl,Hpl⟩:=Qi ((p+7)/8);rw[Hpl.out];clear hb hr ho k1 k2 k3 k4 k5 k6 k7 k8 hS CB;go_wp2_with fail;refine CJ.out.mono ?_;rintro r w2 ⟨rfl,hb2⟩;have Hb2:=Qf (Yk Hb.out hb2);clear hb2;go_wp2_with fail
 go_ret3
 exact⟨Hb2.out,.inr ⟨l.map LBk.b,p,z,Hr.out,hp,by rw[Hpl.out,HT.out];rfl⟩⟩
theorem YaC (s:ByteArray):s.extract 0 s.size=s:=by simp
def Ylb (w:World) (res:Except Nat ByteArray) (r:Ending) (w':World):Prop:=
 Below w.heap.size w w'/\((∃e:Nat,res=.error e/\e ≠ 0/\r=.returned (.tuple #[.string ⟨#[]⟩,.int .i64 (e:Int)]))\/(∃x,res=.ok x/\r=.returned (.tuple #[.string x,.int .i64 0])))
theorem Yce (l:List UInt8):VH 0 l<4294967296:=by unfold VH;omega
theorem Yfq (r L:ByteArray):begB r L=true ↔ ¬(r.size<L.size\/r.extract 0 L.size ≠ L):=by
 unfold begB;rw[Bool.and_eq_true,decide_eq_true_eq,ByteArray.toList_eq,ByteArray.toList_eq];constructor
 . rintro ⟨h1,h2⟩ (h|h)
   . omega
   exact h (ByteArray.ext (Array.ext' (by simpa using h2)))
 intro h;refine⟨by omega,?_⟩;have:r.extract 0 L.size=L:=Classical.byContradiction fun g=>h (.inr g);rw[this];simp
theorem Ybm {d:ByteArray} {m e:Nat} (h:Kl d m=.error e):Xo d m=none:=by unfold Xo;rw[h]
theorem Ybk {d:ByteArray} {m:Nat} {bs:List Bk} {p z:Nat} (h:Kl d m=.ok (bs,sg d p z)) (hp:p<=8*d.size):Xo d m=some (⟨(X5 [] bs).toArray⟩,(p+7)/8):=by
 unfold Xo;rw[h];dsimp only
 have:8*d.size-(sg d p z).n=p:=by show 8*d.size-(8*d.size-p)=p;omega
 rw[this]
theorem YiM (d:ByteArray) (hs:d.size<=100000) (most:Nat) (hm:most<=65536) (w:World) :
 Calls Tryz.prog 34 #[.string d,.int .i64 0,.int .i64 (most:Int)] w fun r w'=>Below w.heap.size w w'/\
  (
   (∃e:Nat,e ≠ 0/\Xo d most=none/\r=.returned (.tuple #[.string ⟨#[]⟩,.int .i64 0,.int .i64 (e:Int)]))\/
   (∃t n,Xo d most=some (t,n)/\n<=100000/\r=.returned (.tuple #[.string t,.int .i64 (n:Int),.int .i64 0]))):=by
 refine(Yd3 d hs 0 most (Nat.zero_le _) hm d (YaC d) w).mono ?_;rintro r w' ⟨hb,⟨e,h1,h2,h3⟩|⟨bs,p,z,h1,h2,h3⟩⟩
 . exact⟨hb,.inl ⟨e,h1,Ybm h2,h3⟩⟩
 exact⟨hb,.inr ⟨_,_,Ybk h1 h2,by omega,h3⟩⟩
theorem Ybl {d:ByteArray} {m:Nat} {t:ByteArray} {n:Nat} (h:Xo d m=some (t,n)):t.size<=m:=by
 unfold Xo at h
 cases hR:Kl d m with
 |error e=>rw[hR] at h;cases h
 |ok x=>
  obtain⟨bs,σ⟩:=x;rw[hR] at h;injection h with h;injection h with h1 h2;obtain⟨_,a2,a3,a4⟩:=Yb6 hR;rw[<-h1];show(X5 [] bs).toArray.size<=m;rw[List.size_toArray];omega
set_option maxHeartbeats 8000000 in
theorem YeT (s:ByteArray) (h:Hd) (hs:s.size<=100000) (hc:h.crc<4294967296) (hn:h.name.size<=9223372036854775000) (w:World) :
 Calls Tryz.prog 20 #[.string s,h.val] w (Ylb w (Xn s h)):=by
 have CL:=Qf (fun W=>Yaq h hc hn W);have e0:(⟨(Vj h).toArray⟩:ByteArray)=locB h:=rfl;rw[e0] at CL;have HF:Hid (Xn s h=if h.place<0\/(s.size:Int)<h.place\/h.packed<0\/h.size<0 then .error 1 else YbV (s.extract h.place.toNat s.size) h):=rfl
 have HFR:Hid (∀r,YbV r h=if begB r (locB h)=true then YbU (r.extract (locB h).size r.size) h else .error 3):=fun r=>by
  show(if _ then _ else _)=_;by_cases hb:begB r (locB h)=true
  . rw[if_pos hb,if_neg ((Yfq r (locB h)).1 hb)]
  rw[if_neg hb,if_pos (Classical.byContradiction fun g=>hb ((Yfq r (locB h)).2 g))]
 have HFS:Hid (∀u,YbU u h=if (u.size:Int)<h.packed then .error 3 else if 65536<h.size then .error 2 else Ug (u.extract 0 h.packed.toNat) h):=fun u=>rfl;have HFD:Hid (∀d,Ug d h=if h.method=0 then JM d h else if h.method=8 then (match Xo d h.size.toNat with|none=>.error 3|some (t,n)=>if n=d.size then JM t h else .error 3) else .error 12):=fun d=>rfl;have HFC:Hid (∀t,JM t h=if (t.size:Int) ≠ h.size then .error 3 else if VH 0 t.data.toList ≠ h.crc then .error 5 else .ok t):=fun t=>rfl;obtain⟨L,HL⟩:=Qi (locB h);obtain⟨RES,HR⟩:=Qi (Xn s h);rw[HL.out] at CL HFR;rw[HR.out] at HF ⊢;obtain⟨fR,HfR⟩:∃f:ByteArray->Except Nat ByteArray,Hid ((fun r=>YbV r h)=f):=⟨_,Qf (Eq.refl _)⟩;obtain⟨fS,HfS⟩:∃f:ByteArray->Except Nat ByteArray,Hid ((fun r=>YbU r h)=f):=⟨_,Qf (Eq.refl _)⟩;obtain⟨fD,HfD⟩:∃f:ByteArray->Except Nat ByteArray,Hid ((fun r=>Ug r h)=f):=⟨_,Qf (Eq.refl _)⟩;obtain⟨fC,HfC⟩:∃f:ByteArray->Except Nat ByteArray,Hid ((fun r=>JM r h)=f):=⟨_,Qf (Eq.refl _)⟩;have gR:=fun r=>congrFun HfR.out r;have gS:=fun r=>congrFun HfS.out r;have gD:=fun r=>congrFun HfD.out r;have gC:=fun r=>congrFun HfC.out r
 have HF2:Hid (RES=if h.place<0\/(s.size:Int)<h.place\/h.packed<0\/h.size<0 then .error 1 else fR (s.extract h.place.toNat s.size)):=by show _=_;rw[HF.out,gR]
 have HFR2:Hid (∀r,fR r=if begB r L=true then fS (r.extract L.size r.size) else .error 3):=fun r=>by rw[<-gR,HFR.out,gS]
 have HFS2:Hid (∀u,fS u=if (u.size:Int)<h.packed then .error 3 else if 65536<h.size then .error 2 else fD (u.extract 0 h.packed.toNat)):=fun u=>by rw[<-gS,HFS.out,gD]
 have HFD2:Hid (∀d,fD d=if h.method=0 then fC d else if h.method=8 then (match Xo d h.size.toNat with|none=>.error 3|some (t,n)=>if n=d.size then fC t else .error 3) else .error 12):=fun d=>by
  rw[<-gD,HFD.out];simp only[gC]
 have HFC2:Hid (∀t,fC t=if (t.size:Int) ≠ h.size then .error 3 else if VH 0 t.data.toList ≠ h.crc then .error 5 else .ok t):=fun t=>by rw[<-gC,HFC.out]
 clear HF HFR HFS HFD HFC HL HR HfR HfS HfD HfC gR gS gD gC e0;obtain⟨nm,me,cr,pk,sz,pl⟩:=h;dsimp only at HF2 HFS2 HFD2 HFC2 hc hn;unfold Hd.val Hd.cells at CL ⊢;dsimp only at CL ⊢;have hbb:=(Below.refl w.heap.size w).alloc (Qa _) (.cells #[.string nm,.int .i64 me,.int .u32 (cr:Int),.int .i64 pk,.int .i64 sz,.int .i64 pl] 49);have HBB:=Qf hbb;clear hbb;by_cases b0:pl<0
 . have hr:RES=.error 1:=by rw[HF2.out,if_pos (by omega)]
   subst hr;have d0:decide (pl<0)=true:=Qg (by omega);clear HF2 HFR2 HFS2 HFD2 HFC2 CL hs hn hc b0;go_enter Tryz.func20,Tryz.ntmps20;go_wp2_with fail;go_ret2;exact⟨HBB.out,.inl ⟨1,rfl,by decide,rfl⟩⟩
 by_cases b1:(s.size:Int)<pl
 . have hr:RES=.error 1:=by rw[HF2.out,if_pos (by omega)]
   subst hr;have d0:decide (pl<0)=false:=Qh (by omega);have d1:decide ((s.size:Int)<pl)=true:=Qg (by omega);clear HF2 HFR2 HFS2 HFD2 HFC2 CL hs hn hc b0 b1;go_enter Tryz.func20,Tryz.ntmps20;go_wp2_with fail;go_ret2;exact⟨HBB.out,.inl ⟨1,rfl,by decide,rfl⟩⟩
 by_cases b2:pk<0
 . have hr:RES=.error 1:=by rw[HF2.out,if_pos (by omega)]
   subst hr;have d0:decide (pl<0)=false:=Qh (by omega);have d1:decide ((s.size:Int)<pl)=false:=Qh (by omega);have d2:decide (pk<0)=true:=Qg (by omega);clear HF2 HFR2 HFS2 HFD2 HFC2 CL hs hn hc b0 b1 b2;go_enter Tryz.func20,Tryz.ntmps20;go_wp2_with fail;go_ret2;exact⟨HBB.out,.inl ⟨1,rfl,by decide,rfl⟩⟩
 by_cases b3:sz<0
 . have hr:RES=.error 1:=by rw[HF2.out,if_pos (by omega)]
   subst hr;have d0:decide (pl<0)=false:=Qh (by omega);have d1:decide ((s.size:Int)<pl)=false:=Qh (by omega);have d2:decide (pk<0)=false:=Qh (by omega);have d3:decide (sz<0)=true:=Qg (by omega);clear HF2 HFR2 HFS2 HFD2 HFC2 CL hs hn hc b0 b1 b2 b3;go_enter Tryz.func20,Tryz.ntmps20;go_wp2_with fail;go_ret2;exact⟨HBB.out,.inl ⟨1,rfl,by decide,rfl⟩⟩
 obtain⟨p,rfl⟩:∃p:Nat,pl=(p:Int):=⟨pl.toNat,by omega⟩;obtain⟨k,rfl⟩:∃k:Nat,pk=(k:Int):=⟨pk.toNat,by omega⟩;obtain⟨z,rfl⟩:∃z:Nat,sz=(z:Int):=⟨sz.toNat,by omega⟩
 have HF3:Hid (RES=fR (s.extract p s.size)):=by show _=_;rw[HF2.out,if_neg (by omega),Int.toNat_natCast]
 rw[HFR2.out] at HF3;have d0:decide ((p:Int)<0)=false:=Qh (by omega);obtain⟨d1,d1b⟩:=Ql (show p<=s.size by omega);have d2:decide ((k:Int)<0)=false:=Qh (by omega);have d3:decide ((z:Int)<0)=false:=Qh (by omega);have hps:p<=s.size:=by omega
 have hpsI:(p:Int)<=(s.size:Int):=by omega
 have CP:=Qf (YkS (s.extract p s.size) L);have hrs:(s.extract p s.size).size<=100000:=by rw[ByteArray.size_extract];omega
 have hbx:=Blk.new w 49 #[.string nm,.int .i64 me,.int .u32 (cr:Int),.int .i64 (k:Int),.int .i64 (z:Int),.int .i64 (p:Int)];have HBX:=Qf hbx;obtain⟨b,Hb⟩:=Qi (begB (s.extract p s.size) L);obtain⟨u,Hu⟩:=Qi ((s.extract p s.size).extract L.size (s.extract p s.size).size);have hus:u.size<=100000:=by rw[<-Hu.out,ByteArray.size_extract];omega
 rw[Hb.out,Hu.out] at CP HF3;obtain⟨G,HG⟩:=Qi (w.heap.size);rw[HG.out] at HBX;clear HF2 HFR2 hrs hbx b0 b1 b2 b3 Hb Hu hs hn
 cases b with
 |false=>
  have hr:RES=.error 3:=HF3.out;subst hr;have CP2:=Qf (fun W=>CP.out W);simp only[Bool.false_eq_true,if_false] at CP2;clear CP;have CP:=CP2;clear CP2 HF3 HFS2 HFD2 HFC2;go_enter Tryz.func20,Tryz.ntmps20;go_wp2_with fail;rw[HG.out];obtain⟨w1,HW1⟩:=Qi (w.alloc (.cells #[.string nm,.int .i64 me,.int .u32 (cr:Int),.int .i64 (k:Int),.int .i64 (z:Int),.int .i64 (p:Int)] 49));rw[HW1.out] at HBX HBB ⊢;clear HW1;have k0:w1.drew.cell? ⟨G,0,none⟩=some (.string nm):=HBX.out.cell 0;have k1:w1.drew.cell? ⟨G,1,none⟩=some (.int .i64 me):=HBX.out.cell 1;have k2:w1.drew.cell? ⟨G,2,none⟩=some (.int .u32 (cr:Int)):=HBX.out.cell 2;have k3:w1.drew.cell? ⟨G,3,none⟩=some (.int .i64 (k:Int)):=HBX.out.cell 3;have k4:w1.drew.cell? ⟨G,4,none⟩=some (.int .i64 (z:Int)):=HBX.out.cell 4;have k5:w1.drew.cell? ⟨G,5,none⟩=some (.int .i64 (p:Int)):=HBX.out.cell 5
  go_region_held3 (fun W=>W.cell? ⟨G,0,none⟩=some (.string nm)/\W.cell? ⟨G,1,none⟩=some (.int .i64 me)/\W.cell? ⟨G,2,none⟩=some (.int .u32 (cr:Int))/\W.cell? ⟨G,3,none⟩=some (.int .i64 (k:Int))/\W.cell? ⟨G,4,none⟩=some (.int .i64 (z:Int))/\W.cell? ⟨G,5,none⟩=some (.int .i64 (p:Int)))
   (first|exact⟨by assumption,by assumption,by assumption,by assumption,by assumption,by assumption⟩|go_keep)
   (first
    |(go_at_call 33;refine(CP.out _).mono ?_;rintro e w9 ⟨rfl,rfl⟩)
    |(go_at_call 26;refine(CL.out _).mono ?_;rintro e w8 ⟨rfl,hb8⟩;have HX8:=Qf (Blk.below (w:=w1.drew) HBX.out hb8 HBX.out.lt);have HB8:=Qf (Yk HBB.out.drew hb8);have q0:w8.cell? ⟨G,0,none⟩=some (.string nm):=HX8.out.cell 0;have q1:w8.cell? ⟨G,1,none⟩=some (.int .i64 me):=HX8.out.cell 1;have q2:w8.cell? ⟨G,2,none⟩=some (.int .u32 (cr:Int)):=HX8.out.cell 2;have q3:w8.cell? ⟨G,3,none⟩=some (.int .i64 (k:Int)):=HX8.out.cell 3;have q4:w8.cell? ⟨G,4,none⟩=some (.int .i64 (z:Int)):=HX8.out.cell 4;have q5:w8.cell? ⟨G,5,none⟩=some (.int .i64 (p:Int)):=HX8.out.cell 5;clear hb8))
  all_goals
   go_wp2_with fail;go_ret2;exact⟨HB8.out,.inl ⟨3,rfl,by decide,rfl⟩⟩
 |true=>
  have HF4:Hid (RES=fS u):=HF3.out;rw[HFS2.out] at HF4;have CP2:=Qf (fun W=>CP.out W);simp only[if_true] at CP2;clear CP;have CP:=CP2;clear CP2 HF3 HFS2;go_enter Tryz.func20,Tryz.ntmps20;go_wp2_with fail;rw[HG.out];obtain⟨w1,HW1⟩:=Qi (w.alloc (.cells #[.string nm,.int .i64 me,.int .u32 (cr:Int),.int .i64 (k:Int),.int .i64 (z:Int),.int .i64 (p:Int)] 49));rw[HW1.out] at HBX HBB ⊢;clear HW1;have k0:w1.drew.cell? ⟨G,0,none⟩=some (.string nm):=HBX.out.cell 0;have k1:w1.drew.cell? ⟨G,1,none⟩=some (.int .i64 me):=HBX.out.cell 1;have k2:w1.drew.cell? ⟨G,2,none⟩=some (.int .u32 (cr:Int)):=HBX.out.cell 2;have k3:w1.drew.cell? ⟨G,3,none⟩=some (.int .i64 (k:Int)):=HBX.out.cell 3;have k4:w1.drew.cell? ⟨G,4,none⟩=some (.int .i64 (z:Int)):=HBX.out.cell 4;have k5:w1.drew.cell? ⟨G,5,none⟩=some (.int .i64 (p:Int)):=HBX.out.cell 5
  go_region_held3 (fun W=>W.cell? ⟨G,0,none⟩=some (.string nm)/\W.cell? ⟨G,1,none⟩=some (.int .i64 me)/\W.cell? ⟨G,2,none⟩=some (.int .u32 (cr:Int))/\W.cell? ⟨G,3,none⟩=some (.int .i64 (k:Int))/\W.cell? ⟨G,4,none⟩=some (.int .i64 (z:Int))/\W.cell? ⟨G,5,none⟩=some (.int .i64 (p:Int)))
   (first|exact⟨by assumption,by assumption,by assumption,by assumption,by assumption,by assumption⟩|go_keep)
   (first
    |(go_at_call 33;refine(CP.out _).mono ?_;rintro e w9 ⟨rfl,rfl⟩)
    |(go_at_call 26;refine(CL.out _).mono ?_;rintro e w8 ⟨rfl,hb8⟩;have HX8:=Qf (Blk.below (w:=w1.drew) HBX.out hb8 HBX.out.lt);have HB8:=Qf (Yk HBB.out.drew hb8);have q0:w8.cell? ⟨G,0,none⟩=some (.string nm):=HX8.out.cell 0;have q1:w8.cell? ⟨G,1,none⟩=some (.int .i64 me):=HX8.out.cell 1;have q2:w8.cell? ⟨G,2,none⟩=some (.int .u32 (cr:Int)):=HX8.out.cell 2;have q3:w8.cell? ⟨G,3,none⟩=some (.int .i64 (k:Int)):=HX8.out.cell 3;have q4:w8.cell? ⟨G,4,none⟩=some (.int .i64 (z:Int)):=HX8.out.cell 4;have q5:w8.cell? ⟨G,5,none⟩=some (.int .i64 (p:Int)):=HX8.out.cell 5;clear hb8))
  all_goals
   clear k0 k1 k2 k3 k4 k5 CP CL;by_cases hk:u.size<k
   . obtain⟨d4,d4b⟩:=Qj (show u.size<k by omega)
     have hr:RES=.error 3:=(by rw[HF4.out,if_pos (by omega)]);subst hr;clear HF4 HFD2 HFC2;go_wp2_with fail;go_ret2;exact⟨HB8.out,.inl ⟨3,rfl,by decide,rfl⟩⟩
   obtain⟨d4,d4b⟩:=Ql (show k<=u.size by omega);by_cases hz:65536<z
   . have d5:decide ((65536:Int)<(z:Int))=true:=Qg (by omega)
     have d5b:decide (65536<z)=true:=Qg (by omega);have hr:RES=.error 2:=(by rw[HF4.out,if_neg (by omega),if_pos (by omega)]);subst hr;clear HF4 HFD2 HFC2;go_wp2_with fail;go_ret2;exact⟨HB8.out,.inl ⟨2,rfl,by decide,rfl⟩⟩
   have d5:decide ((65536:Int)<(z:Int))=false:=Qh (by omega);have d5b:decide (65536<z)=false:=Qh (by omega)
   have HF5:Hid (RES=fD (u.extract 0 k)):=by show _=_;rw[HF4.out,if_neg (by omega),if_neg (by omega),Int.toNat_natCast]
   rw[HFD2.out,Int.toNat_natCast] at HF5;have hdz:(u.extract 0 k).size=k:=by rw[ByteArray.size_extract];omega
   have hku:k<=u.size:=by omega
   have hkuI:(k:Int)<=(u.size:Int):=by omega
   obtain⟨d,Hd0⟩:=Qi (u.extract 0 k);rw[Hd0.out] at HF5 hdz;have hks:k<=100000:=by omega
   have HDZ:=Qf hdz;clear HF4 HFD2 hk hdz;by_cases hm0:me=0
   . have m0:(me==0)=true:=by rw[beq_iff_eq];exact hm0
     have HF6:Hid (RES=fC d):=by show _=_;rw[HF5.out,if_pos hm0]
     subst hm0;clear HF5;go_upto_region 17 with fail;rw[Hd0.out];rw[HFC2.out] at HF6;have CC:=Qf (fun W=>YaG d W (by have:=HDZ.out;unfold maxLen;omega));have CRL:VH 0 d.data.toList<4294967296:=Yce _;obtain⟨cc,Hcc⟩:=Qi (VH 0 d.data.toList);rw[Hcc.out] at HF6 CC CRL;clear HFC2;by_cases hts:d.size=z
     . by_cases hcc:cc=cr
       . have hr:RES=.ok d:=by rw[HF6.out,if_neg (by omega),if_neg (fun g=>g hcc)]
         subst hr;subst hcc;have hts1:(d.size:Int)=(z:Int):=(by omega);clear HF6;have n2:w8.drew.cell? ⟨G,2,none⟩=some (.int .u32 (cc:Int)):=HX8.out.cell 2;go_upto_region 19 with fail
         go_region_held3 (fun W=>W.cell? ⟨G,2,none⟩=some (.int .u32 (cc:Int))) (first|exact n2|exact n7|assumption)
          (first
           |(go_at_call 22;refine(CC.out _).mono ?_;rintro e w7 ⟨rfl,hb7⟩;have n7:w7.cell? ⟨G,2,none⟩=some (.int .u32 (cc:Int)):=(Blk.below (w:=w8.drew) HX8.out hb7 HX8.out.lt).cell 2;have HB7:=Qf (Yk HB8.out.drew hb7);clear hb7))
         all_goals
          go_wp2_with fail;go_ret2;exact⟨HB7.out,.inr ⟨d,rfl,rfl⟩⟩
       have hr:RES=.error 5:=(by rw[HF6.out,if_neg (by omega),if_pos hcc]);subst hr;have hts1:(d.size:Int)=(z:Int):=(by omega);have n2:w8.drew.cell? ⟨G,2,none⟩=some (.int .u32 (cr:Int)):=HX8.out.cell 2;have hcc1:((cc:Int)==(cr:Int))=false:=(by rw[beq_eq_false_iff_ne];omega);have hcc2:¬(cc:Int)=(cr:Int):=(by omega);clear HF6;go_upto_region 19 with fail
       go_region_held3 (fun W=>W.cell? ⟨G,2,none⟩=some (.int .u32 (cr:Int))) (first|exact n2|exact n7|assumption)
        (first
         |(go_at_call 22;refine(CC.out _).mono ?_;rintro e w7 ⟨rfl,hb7⟩;have n7:w7.cell? ⟨G,2,none⟩=some (.int .u32 (cr:Int)):=(Blk.below (w:=w8.drew) HX8.out hb7 HX8.out.lt).cell 2;have HB7:=Qf (Yk HB8.out.drew hb7);clear hb7))
       all_goals
        go_wp2_with fail;go_ret2;exact⟨HB7.out,.inl ⟨5,rfl,by decide,rfl⟩⟩
     have hr:RES=.error 3:=(by rw[HF6.out,if_pos (by omega)]);subst hr;have t1:(d.size==z)=false:=(by rw[beq_eq_false_iff_ne];omega);have t2:¬(d.size:Int)=(z:Int):=(by omega);have t3:((d.size:Int)==(z:Int))=false:=(by rw[beq_eq_false_iff_ne];omega);clear HF6 CC;go_wp2_with fail;go_ret2;exact⟨HB8.out,.inl ⟨3,rfl,by decide,rfl⟩⟩
   by_cases hm8:me=8
   . have HF6:Hid (RES=(match Xo d z with|none=>.error 3|some (t,n)=>if n=d.size then fC t else .error 3)):=by show _=_;rw[HF5.out,if_neg hm0,if_pos hm8]
     subst hm8;have CI:=Qf (fun W=>YiM d (by have:=HDZ.out;omega) z (by omega) W);clear HF5 hm0;go_upto_region 13 with fail;rw[Hd0.out];go_wp2_with fail;refine(CI.out _).mono ?_;rintro e w9 ⟨hb9,⟨er,he1,he2,rfl⟩|⟨t,n,ht,hn9,rfl⟩⟩
     . have hr:RES=.error 3:=by rw[HF6.out,he2]
       subst hr;have HB9:=Qf (Yk HB8.out hb9);have hX9:=HX8.out.below hb9 HX8.out.lt;have g3:w9.cell? ⟨G,3,none⟩=some (.int .i64 (k:Int)):=hX9.cell 3;have heI:¬(er:Int)=0:=(by omega);clear HF6 HFC2 hb9 hX9 q0 q1 q2 q3 q4 q5 CI;go_wp2_with fail;go_ret2;exact⟨HB9.out,.inl ⟨3,rfl,by decide,rfl⟩⟩
     have HB9:=Qf (Yk HB8.out hb9);have HX9:=Qf (HX8.out.below hb9 HX8.out.lt)
     have HF7:Hid (RES=if n=d.size then fC t else .error 3):=by show _=_;rw[HF6.out,ht]
     have g2:w9.cell? ⟨G,2,none⟩=some (.int .u32 (cr:Int)):=HX9.out.cell 2;have g3:w9.cell? ⟨G,3,none⟩=some (.int .i64 (k:Int)):=HX9.out.cell 3;have g4:w9.cell? ⟨G,4,none⟩=some (.int .i64 (z:Int)):=HX9.out.cell 4;have HTS:=Qf (Ybl ht);clear HF6 hb9 q0 q1 q2 q3 q4 q5 CI ht;by_cases hnk:n=k
     . have HF8:Hid (RES=fC t):=by show _=_;rw[HF7.out,if_pos (by rw[HDZ.out];exact hnk)]
       subst hnk;clear HF7;go_upto_region 17 with fail;rw[HFC2.out] at HF8;have CC:=Qf (fun W=>YaG t W (by have:=HTS.out;unfold maxLen;omega));have CRL:VH 0 t.data.toList<4294967296:=Yce _;obtain⟨cc,Hcc⟩:=Qi (VH 0 t.data.toList);rw[Hcc.out] at HF8 CC CRL;clear HFC2;by_cases hts:t.size=z
       . by_cases hcc:cc=cr
         . have hr:RES=.ok t:=by rw[HF8.out,if_neg (by omega),if_neg (fun g=>g hcc)]
           subst hr;subst hcc;have hts1:(t.size:Int)=(z:Int):=(by omega);clear HF8;have n2:w9.drew.cell? ⟨G,2,none⟩=some (.int .u32 (cc:Int)):=HX9.out.cell 2;go_upto_region 19 with fail
           go_region_held3 (fun W=>W.cell? ⟨G,2,none⟩=some (.int .u32 (cc:Int))) (first|exact n2|exact n7|assumption)
            (first
             |(go_at_call 22;refine(CC.out _).mono ?_;rintro e w7 ⟨rfl,hb7⟩;have n7:w7.cell? ⟨G,2,none⟩=some (.int .u32 (cc:Int)):=(Blk.below (w:=w9.drew) HX9.out hb7 HX9.out.lt).cell 2;have HB7:=Qf (Yk HB9.out.drew hb7);clear hb7))
           all_goals
            go_wp2_with fail;go_ret2;exact⟨HB7.out,.inr ⟨t,rfl,rfl⟩⟩
         have hr:RES=.error 5:=(by rw[HF8.out,if_neg (by omega),if_pos hcc]);subst hr;have hts1:(t.size:Int)=(z:Int):=(by omega);have n2:w9.drew.cell? ⟨G,2,none⟩=some (.int .u32 (cr:Int)):=HX9.out.cell 2;have hcc1:((cc:Int)==(cr:Int))=false:=(by rw[beq_eq_false_iff_ne];omega);have hcc2:¬(cc:Int)=(cr:Int):=(by omega);clear HF8;go_upto_region 19 with fail
         go_region_held3 (fun W=>W.cell? ⟨G,2,none⟩=some (.int .u32 (cr:Int))) (first|exact n2|exact n7|assumption)
          (first
           |(go_at_call 22;refine(CC.out _).mono ?_;rintro e w7 ⟨rfl,hb7⟩;have n7:w7.cell? ⟨G,2,none⟩=some (.int .u32 (cr:Int)):=(Blk.below (w:=w9.drew) HX9.out hb7 HX9.out.lt).cell 2;have HB7:=Qf (Yk HB9.out.drew hb7);clear hb7))
         all_goals
          go_wp2_with fail;go_ret2;exact⟨HB7.out,.inl ⟨5,rfl,by decide,rfl⟩⟩
       have hr:RES=.error 3:=(by rw[HF8.out,if_pos (by omega)]);subst hr;have t1:(t.size==z)=false:=(by rw[beq_eq_false_iff_ne];omega);have t2:¬(t.size:Int)=(z:Int):=(by omega);have t3:((t.size:Int)==(z:Int))=false:=(by rw[beq_eq_false_iff_ne];omega);clear HF8 CC;go_wp2_with fail;go_ret2;exact⟨HB9.out,.inl ⟨3,rfl,by decide,rfl⟩⟩
     have hr:RES=.error 3:=(by rw[HF7.out,if_neg (by rw[HDZ.out];exact hnk)]);subst hr;have hnkI:¬(n:Int)=(k:Int):=(by omega);have hnkb:((n:Int)==(k:Int))=false:=(by rw[beq_eq_false_iff_ne];omega);clear HF7 HFC2;go_wp2_with fail;go_ret2;exact⟨HB9.out,.inl ⟨3,rfl,by decide,rfl⟩⟩
   have hr:RES=.error 12:=by rw[HF5.out,if_neg hm0,if_neg hm8]
   subst hr;have m0:(me==0)=false:=by rw[beq_eq_false_iff_ne];exact hm0
   have m8:(me==8)=false:=by rw[beq_eq_false_iff_ne];exact hm8
   clear HF5 HFC2;go_wp2_with fail;go_ret2;exact⟨HB8.out,.inl ⟨12,rfl,by decide,rfl⟩⟩
theorem Ja (x:Nat) (n:Nat) (hx:x<18446744073709551616) (hn:n<=1000) (w:World) :
 Calls Tryz.prog 68 #[.int .u64 (x:Int),.int .i64 (n:Int)] w fun e w'=>e=.returned (.string ⟨(putL x n).toArray⟩)/\Below w.heap.size w w':=by
 go_enter Tryz.func68,Tryz.ntmps68
 go_wp2
 go_loopw [0,5,6] (fun y v i wr=>∃k:Nat,k<=n/\i=.int .i64 k/\y=.int .u64 ((x:Int)/256^k)/\OwnB wr w.heap.size v (putL x k)/\Below w.heap.size w wr)
  (fun _ _ i _=>n-(intOf i).toNat)
 case atStart=>exact⟨0,Nat.zero_le _,rfl,by simp,OwnB.empty _ _ (Qa _),(Below.refl _ _).alloc (Qa _) _⟩
 obtain⟨k,hk,rfl,rfl,hown,hb⟩:=hrel;have hl:=Yq x k;have hll:(putL x k).length<140737488355328:=by omega
 clear hl;have hbs:=hb.size;have hst:=Qf (YeO x k);have hxk:0<=(x:Int)/256^k:=Int.ediv_nonneg (by omega) (Int.le_of_lt (Int.pow_pos (by decide)));have hxk2:(x:Int)/256^k<=18446744073709551615:=Int.le_trans (Int.ediv_le_self _ (by omega)) (by omega);by_cases hlt:k<n
 . go_wp2_with (at_builtin;go_must (refine VZ _ rfl _ _ rfl w.heap.size _ (putL x k) _ hown rfl rfl rfl ?_ ?_ hll hbs ?_;omega;omega;intro v' w1 hown1 hb1))
   go_roundw
   case rel=>exact⟨k+1,by omega,by go_num,by rw[JH],by rw[hst.out];exact hown1,hb.trans hb1⟩
   simp[intOf];omega
 have hs:=Xh wr _ _ _ hown;go_wp2_with fail;go_ret;obtain rfl:k=n:=by omega
 exact⟨rfl,hb⟩
def putB (x:Int) (n:Nat):ByteArray:=⟨(putL (u64 x) n).toArray⟩
theorem VL (x:Int) (n:Nat):(putB x n).size=n:=by show(putL (u64 x) n).toArray.size=n;rw[List.size_toArray,Yq]
theorem Yhm (x:Int) (w:World):Calls Tryz.prog 52 #[.int .i64 x] w fun e w'=>e=.returned (.string (putB x 2))/\Below w.heap.size w w':=by
 have C:=Qf (fun W=>Ja (u64 x) 2 (Yhj x) (by decide) W);have e0:(⟨(putL (u64 x) 2).toArray⟩:ByteArray)=putB x 2:=rfl;rw[e0] at C;have hw:=YbC x;obtain⟨u,Hu⟩:=Qi (u64 x);rw[Hu.out] at C hw;clear e0;go_enter Tryz.func52,Tryz.ntmps52;go_wp2_with fail;refine(C.out _).mono ?_;rintro e w1 ⟨rfl,hb⟩;go_wp2_with fail;go_ret;exact⟨rfl,hb⟩
theorem Yfc (x:Int) (w:World):Calls Tryz.prog 53 #[.int .i64 x] w fun e w'=>e=.returned (.string (putB x 4))/\Below w.heap.size w w':=by
 have C:=Qf (fun W=>Ja (u64 x) 4 (Yhj x) (by decide) W);have e0:(⟨(putL (u64 x) 4).toArray⟩:ByteArray)=putB x 4:=rfl;rw[e0] at C;have hw:=YbC x;obtain⟨u,Hu⟩:=Qi (u64 x);rw[Hu.out] at C hw;clear e0;go_enter Tryz.func53,Tryz.ntmps53;go_wp2_with fail;refine(C.out _).mono ?_;rintro e w1 ⟨rfl,hb⟩;go_wp2_with fail;go_ret;exact⟨rfl,hb⟩
set_option maxHeartbeats 8000000 in
theorem Ya8 (h:Hd) (hc:h.crc<4294967296) (w:World):Calls Tryz.prog 35 #[h.val] w fun e w'=>e=.returned (.string ⟨(Va h).toArray⟩)/\Below w.heap.size w w':=by
 have HE:Hid (putB 20 2++putB 0 2++putB h.method 2++putB 0 4++putB (h.crc:Int) 4++putB h.packed 4++putB h.size 4++putB (h.name.size:Int) 2++putB 0 2=⟨(Va h).toArray⟩):=by
  show _=_;apply ByteArray.ext;apply Array.ext';unfold Va Hd.nums putB fldL;simp only[ByteArray.data_append,Array.toList_append,List.flatMap_cons,List.flatMap_nil,List.append_nil,List.append_assoc]
 obtain⟨FL,HFL⟩:=Qi ((⟨(Va h).toArray⟩:ByteArray));rw[HFL.out] at HE ⊢;obtain⟨nm,me,cr,pk,sz,pl⟩:=h;dsimp only at HE hc;unfold Hd.val Hd.cells;dsimp only;have C2:=Qf Yhm;have C4:=Qf Yfc;have s2:∀x,(putB x 2).size=2:=fun x=>VL x 2;have s4:∀x,(putB x 4).size=4:=fun x=>VL x 4;obtain⟨F2,HF2⟩:∃F:Int->ByteArray,Hid ((fun x=>putB x 2)=F):=⟨_,Qf (Eq.refl _)⟩;obtain⟨F4,HF4⟩:∃F:Int->ByteArray,Hid ((fun x=>putB x 4)=F):=⟨_,Qf (Eq.refl _)⟩;have g2:∀x,putB x 2=F2 x:=fun x=>congrFun HF2.out x;have g4:∀x,putB x 4=F4 x:=fun x=>congrFun HF4.out x
 have D2:Hid (∀x W,Calls Tryz.prog 52 #[.int .i64 x] W fun e w'=>e=.returned (.string (F2 x))/\Below W.heap.size W w'):=fun x W=>by rw[<-g2];exact C2.out x W
 have D4:Hid (∀x W,Calls Tryz.prog 53 #[.int .i64 x] W fun e w'=>e=.returned (.string (F4 x))/\Below W.heap.size W w'):=fun x W=>by rw[<-g4];exact C4.out x W
 rw[g2,g2,g2,g2,g4,g4,g4,g4] at HE;have z1:(F2 20).size=2:=by rw[<-g2];exact s2 _
 have z2:(F2 0).size=2:=by rw[<-g2];exact s2 _
 have z3:(F2 me).size=2:=by rw[<-g2];exact s2 _
 have z4:(F2 (nm.size:Int)).size=2:=by rw[<-g2];exact s2 _
 have z5:(F4 0).size=4:=by rw[<-g4];exact s4 _
 have z6:(F4 (cr:Int)).size=4:=by rw[<-g4];exact s4 _
 have z7:(F4 pk).size=4:=by rw[<-g4];exact s4 _
 have z8:(F4 sz).size=4:=by rw[<-g4];exact s4 _
 have hwc:IntKind.i64.wrap (cr:Int)=(cr:Int):=by rw[IntKind.wrap_i64];omega
 clear g2 g4 s2 s4 C2 C4 HF2 HF4 HFL;have hbx:=Blk.new w 42 #[.string nm,.int .i64 me,.int .u32 (cr:Int),.int .i64 pk,.int .i64 sz,.int .i64 pl];have hbb:=(Below.refl w.heap.size w).alloc (Qa _) (.cells #[.string nm,.int .i64 me,.int .u32 (cr:Int),.int .i64 pk,.int .i64 sz,.int .i64 pl] 42);obtain⟨G,HG⟩:=Qi (w.heap.size);rw[HG.out] at hbx;have HBX:=Qf hbx;have HBB:=Qf hbb;clear hbx hbb;go_enter Tryz.func35,Tryz.ntmps35;go_wp2_with fail;rw[HG.out];obtain⟨w1,HW1⟩:=Qi (w.alloc (.cells #[.string nm,.int .i64 me,.int .u32 (cr:Int),.int .i64 pk,.int .i64 sz,.int .i64 pl] 42));rw[HW1.out] at HBX HBB ⊢;clear HW1
 have HS:Hid (∀W,Below w1.heap.size w1 W->W.cell? ⟨G,0,none⟩=some (.string nm)/\W.cell? ⟨G,1,none⟩=some (.int .i64 me)/\W.cell? ⟨G,2,none⟩=some (.int .u32 (cr:Int))/\W.cell? ⟨G,3,none⟩=some (.int .i64 pk)/\W.cell? ⟨G,4,none⟩=some (.int .i64 sz)/\W.cell? ⟨G,5,none⟩=some (.int .i64 pl)):=fun W hb=>by
  have h:=HBX.out.below hb HBX.out.lt;exact⟨h.cell 0,h.cell 1,h.cell 2,h.cell 3,h.cell 4,h.cell 5⟩
 obtain⟨k0,k1,k2,k3,k4,k5⟩:=HS.out w1.drew ((Below.refl _ _).drew)
 go_region_held3 (fun W=>W.cell? ⟨G,0,none⟩=some (.string nm)/\W.cell? ⟨G,1,none⟩=some (.int .i64 me)/\W.cell? ⟨G,2,none⟩=some (.int .u32 (cr:Int))/\W.cell? ⟨G,3,none⟩=some (.int .i64 pk)/\W.cell? ⟨G,4,none⟩=some (.int .i64 sz)/\W.cell? ⟨G,5,none⟩=some (.int .i64 pl))
  (first|(refine HS.out _ ?_;(repeat' (first|with_reducible exact Below.refl _ _|with_reducible assumption|with_reducible apply Below.drew|with_reducible apply Yo))))
  (first
   |(go_at_call 52;refine(D2.out _ _).mono ?_;rintro e w2 ⟨rfl,hb2⟩;have HB2:Below w1.heap.size w1 w2:=Yk (by(repeat' (first|with_reducible exact Below.refl _ _|with_reducible assumption|with_reducible apply Below.drew|with_reducible apply Yo))) hb2;clear hb2)
   |(go_at_call 53;refine(D4.out _ _).mono ?_;rintro e w2 ⟨rfl,hb2⟩;have HB2:Below w1.heap.size w1 w2:=Yk (by(repeat' (first|with_reducible exact Below.refl _ _|with_reducible assumption|with_reducible apply Below.drew|with_reducible apply Yo))) hb2;clear hb2))
 all_goals
  go_wp2_with fail;go_ret;exact⟨by rw[<-HE.out];rfl,Yk HBB.out (by(repeat' (first|with_reducible exact Below.refl _ _|with_reducible assumption|with_reducible apply Below.drew|with_reducible apply Yo)))⟩
theorem Ymt (x:Nat) (hx:x<4294967296):half x<4294967296:=by
 unfold half;split
 . exact Nat.xor_lt_two_pow (n:=32) (by omega) (by omega)
 omega
def Ul:Nat->Nat->Nat
 |0,x=>x
 |k+1,x=>half (Ul k x)
def dbit (l:List UInt8) (i:Nat):Bool:=(l.getD (i/8) 0).toNat/2^(i%8)%2==1
def reg (l:List UInt8):Nat->Nat
 |0=>4294967295
 |i+1=>half (reg l i ^^^ (dbit l i).toNat)
def pb (k:Nat):Bool:=4374732215/2^(32-k)%2==1
def first (l:List UInt8) (k j:Nat):Bool:=if j<k then dbit l j ^^ decide (j<32) else false
def UZ (f:Nat->Bool) (i:Nat):Value:=.bool (f i)
theorem YmK (s:ByteArray) (k:Nat) (h:k/8<s.size):(((s[k/8].toNat:Int)/2^(k%8)).tmod 2==1)=dbit s.data.toList k:=by
 unfold dbit
 have e:s.data.toList.getD (k/8) 0=s[k/8]:=by
  rw[List.getD_eq_getElem?_getD,List.getElem?_eq_getElem (by simpa using h)];rfl
 rw[e];have e2:((s[k/8].toNat:Int)/2^(k%8))=((s[k/8].toNat/2^(k%8):Nat):Int):=by simp
 rw[e2];have e3:(((s[k/8].toNat/2^(k%8):Nat):Int)).tmod 2=((s[k/8].toNat/2^(k%8)%2:Nat):Int):=rfl;rw[e3,Bool.eq_iff_iff];simp only[beq_iff_eq];omega
theorem Yfj (l:List UInt8) (k:Nat) (h:l.length<=k/8):dbit l k=false:=by
 unfold dbit;rw[List.getD_eq_getElem?_getD,List.getElem?_eq_none h];simp
theorem YaA (l:List UInt8) (k:Nat) (b:Bool) (hb:b=(dbit l k ^^ decide (k<32))):(fun i=>if i=k then .bool b else UZ (first l k) i)=UZ (first l (k+1)):=by
 funext i
 unfold UZ first
 by_cases h:i=k
 . subst h;rw[if_pos rfl,if_pos (by omega),hb]
 rw[if_neg h];by_cases h2:i<k
 . rw[if_pos h2,if_pos (by omega)]
 rw[if_neg h2,if_neg (by omega)]
theorem Ybr (l:List UInt8) (k:Nat) (b c:Bool) (hb:b=(dbit l k ^^ decide (k<32))):(fun i=>if i=k then .bool b else if i=k then .bool c else UZ (first l k) i)=UZ (first l (k+1)):=by
 rw[<-YaA l k b hb];funext i;by_cases h:i=k
 . rw[if_pos h,if_pos h]
 rw[if_neg h,if_neg h,if_neg h]
theorem Kz (s:ByteArray):s.data.toList.length=s.size:=by simp
def RowAt (l:List UInt8) (n i:Nat) (f:Nat->Bool):Prop:=∀j,i<=j->j<n->f j=((reg l i).testBit (j-i) ^^ dbit l j)
def XV (f:Nat->Bool) (i k j:Nat):Bool:=f j ^^ (decide (i<=j)&&decide (j<i+k)&&pb (j-i))
theorem Jx (j:Nat):(4294967295:Nat).testBit j=decide (j<32):=by
 have h1:(4294967295:Nat)=2^32-1:=by decide
 rw[h1,Nat.testBit_two_pow_sub_one]
theorem YdM (l:List UInt8) (n:Nat):RowAt l n 0 (first l n):=by
 intro j _ hj
 unfold first reg
 rw[if_pos hj,Nat.sub_zero,Jx,Bool.xor_comm]
theorem Yl3:∀j,j<32->pb (j+1)=(0xedb88320:Nat).testBit j:=by decide +kernel
theorem Ykc (j:Nat) (h:32<=j):(0xedb88320:Nat).testBit j=false:=
 Nat.testBit_lt_two_pow (Qb (show(0xedb88320:Nat)<2^32 by decide) (Nat.pow_le_pow_right (by decide) h))
theorem JD (l:List UInt8) (i j:Nat):(reg l (i+1)).testBit j=((reg l i).testBit (j+1) ^^ (((reg l i).testBit 0 ^^ dbit l i)&&(0xedb88320:Nat).testBit j)):=by
 have h2:(reg l i ^^^ (dbit l i).toNat)/2=reg l i/2:=by
  apply Nat.eq_of_testBit_eq;intro m;rw[Nat.testBit_div_two,Nat.testBit_div_two,Nat.testBit_xor];cases dbit l i
  . simp
  have:(1:Nat).testBit (m+1)=false:=by rw[Nat.testBit_succ];simp
  simp[this]
 have h3:((reg l i ^^^ (dbit l i).toNat)%2=1) ↔ ((reg l i).testBit 0 ^^ dbit l i)=true:=by
  have:(reg l i ^^^ (dbit l i).toNat).testBit 0=((reg l i).testBit 0 ^^ dbit l i):=by
   rw[Nat.testBit_xor];cases dbit l i<;>simp
  rw[<-this,Nat.testBit_zero];simp
 show(half (reg l i ^^^ (dbit l i).toNat)).testBit j=_;unfold half;rw[h2];by_cases h:((reg l i).testBit 0 ^^ dbit l i)=true
 . rw[if_pos (h3.2 h),Nat.testBit_xor,Nat.testBit_div_two,h]
   simp
 rw[if_neg (fun h4=>h (h3.1 h4)),Nat.testBit_div_two];simp only[Bool.not_eq_true] at h;rw[h];simp
theorem RowAt.skip {l:List UInt8} {n i:Nat} {f:Nat->Bool} (h:RowAt l n i f) (hi:i<n) (hf:f i=false):RowAt l n (i+1) f:=by
 intro j hj hn;have h0:=h i (Qa _) hi;rw[hf,Nat.sub_self] at h0;rw[h j (by omega) hn,JD,<-h0];have:j-(i+1)+1=j-i:=by omega
 rw[this];simp
theorem RowAt.flip {l:List UInt8} {n i:Nat} {f:Nat->Bool} (h:RowAt l n i f) (hi:i<n) (hf:f i=true):RowAt l n (i+1) (XV f i 33):=by
 intro j hj hn;have h0:=h i (Qa _) hi;rw[hf,Nat.sub_self] at h0;unfold XV;rw[h j (by omega) hn,JD,<-h0];have e:j-(i+1)+1=j-i:=by omega
 rw[e];by_cases h33:j<i+33
 . have e2:j-i=j-(i+1)+1:=by omega
   have e3:pb (j-i)=(0xedb88320:Nat).testBit (j-(i+1)):=by rw[e2];exact Yl3 _ (by omega)
   rw[e3];cases (reg l i).testBit (j-i)<;>cases dbit l j<;>simp[h33,show i<=j by omega]
 rw[Ykc _ (by omega)];simp[h33]
theorem Ydw (f:Nat->Bool) (i:Nat):XV f i 0=f:=by
 funext j;unfold XV
 have:(decide (i<=j)&&decide (j<i+0))=false:=by
  by_cases h:i<=j
  . simp[h]
  simp[h]
 rw[this];simp
theorem Ydy (f:Nat->Bool) (i k:Nat) (h:pb k=false):XV f i (k+1)=XV f i k:=by
 funext j;unfold XV;by_cases e:j=i+k
 . subst e
   rw[Nat.add_sub_cancel_left,h];simp
 have:decide (j<i+(k+1))=decide (j<i+k):=by
  rw[decide_eq_decide];omega
 rw[this]
theorem Ydx (f:Nat->Bool) (i k:Nat) (h:pb k=true):(fun j=>if j=i+k then .bool (!XV f i k (i+k)) else UZ (XV f i k) j)=UZ (XV f i (k+1)):=by
 funext j;unfold UZ XV;by_cases e:j=i+k
 . subst e
   rw[if_pos rfl,Nat.add_sub_cancel_left,h];simp
 rw[if_neg e]
 have:decide (j<i+(k+1))=decide (j<i+k):=by
  rw[decide_eq_decide];omega
 rw[this]
theorem YnE:∀c:Nat,c<33->(bits .and .i64 ((4374732215:Int)/2^(32-c)) 1==1)=pb c:=by decide +kernel
def gat (g:Nat->Bool):Nat->Nat
 |0=>0
 |k+1=>gat g k+if g k then 2^k else 0
theorem Ylq (g:Nat->Bool) (k:Nat):gat g k<2^k:=by
 induction k with
 |zero=>exact Nat.zero_lt_one
 |succ k ih=>
  simp only[gat,Nat.pow_succ];split<;>omega
theorem Ymy (g:Nat->Bool) (k m:Nat):(gat g k).testBit m=(decide (m<k)&&g m):=by
 induction k with
 |zero=>simp[gat]
 |succ k ih=>
  simp only[gat];have hl:=Ylq g k;by_cases hg:g k=true
  . rw[if_pos hg]
    have h1:=Nat.two_pow_add_eq_or_of_lt hl 1;rw[Nat.mul_one] at h1;rw[Nat.add_comm,h1,Nat.testBit_or,ih,Nat.testBit_two_pow];by_cases e:k=m
    . subst e;simp[hg]
    by_cases h2:m<k
    . simp[h2,show m<k+1 by omega,e]
    simp[h2,show ¬m<k+1 by omega,e]
  rw[if_neg hg,Nat.add_zero,ih];by_cases e:k=m
  . subst e;simp[hg]
  by_cases h2:m<k
  . simp[h2,show m<k+1 by omega]
  simp[h2,show ¬m<k+1 by omega]
theorem Ymx (g:Nat->Bool) (x:Nat) (hx:x<4294967296) (h:∀m,m<32->g m=!x.testBit m):gat g 32=4294967295-x:=by
 rw[<-Yif x hx];apply Nat.eq_of_testBit_eq;intro m;rw[Ymy,Nat.testBit_xor,Jx];by_cases hm:m<32
 . simp[hm,h m hm]
 have:x.testBit m=false:=Nat.testBit_lt_two_pow (Qb (show x<2^32 by omega) (Nat.pow_le_pow_right (by decide) (by omega)));simp[hm,this]
theorem Ymz (x j:Nat) (hx:x<2^j) (hj:j<32):((x:Int)+2^j%4294967296)%4294967296=((x+2^j:Nat):Int):=by
 have h1:2^(j+1)<=2^32:=Nat.pow_le_pow_right (by decide) (by omega);rw[Nat.pow_succ] at h1;have h2:(2:Nat)^32=4294967296:=by decide
 have h3:((2:Int)^j)=((2^j:Nat):Int):=by simp
 rw[h3];generalize 2^j=p at *;omega
theorem Yfa (x y:Nat):half (x ^^^ 2*y)=half x ^^^ y:=by
 have e0:∀z:Nat,(2*y).testBit (z+1)=y.testBit z:=fun z=>by
  rw[Nat.testBit_succ];congr 1;omega
 have e1:(x ^^^ 2*y)/2=x/2 ^^^ y:=by
  apply Nat.eq_of_testBit_eq;intro m;rw[Nat.testBit_div_two,Nat.testBit_xor,Nat.testBit_xor,Nat.testBit_div_two,e0]
 have e2:(x ^^^ 2*y)%2=x%2:=by
  have h1:(x ^^^ 2*y).testBit 0=x.testBit 0:=by
   rw[Nat.testBit_xor];have:(2*y).testBit 0=false:=by simp
   rw[this,Bool.xor_false]
  rw[Nat.testBit_zero,Nat.testBit_zero,decide_eq_decide] at h1;omega
 unfold half;rw[e1,e2];split
 . rw[Nat.xor_assoc,Nat.xor_assoc,Nat.xor_comm y]
 rfl
theorem Ygz (k x y:Nat):Ul k (x ^^^ 2^k*y)=Ul k x ^^^ y:=by
 induction k generalizing y with
 |zero=>simp[Ul]
 |succ k ih=>
  have e:2^(k+1)*y=2^k*(2*y):=by rw[Nat.pow_succ,Nat.mul_assoc]
  rw[e];show half (Ul k _)=half (Ul k x) ^^^ y;rw[ih,Yfa]
theorem Yji (b t:Nat):(b/2^t) ^^^ (b/2^t%2==1).toNat=2*(b/2^(t+1)):=by
 have h:b/2^(t+1)=b/2^t/2:=by rw[Nat.pow_succ,Nat.div_div_eq_div_mul]
 rw[h];generalize b/2^t=q;apply Nat.eq_of_testBit_eq;intro m;rcases m with _|m
 . rw[Nat.testBit_xor]
   have h1:q.testBit 0=(q%2==1):=by rw[Nat.testBit_zero];rfl
   have h2:(2*(q/2)).testBit 0=false:=by simp
   rw[h1,h2];cases (q%2==1)<;>simp
 rw[Nat.testBit_xor]
 have h3:(q%2==1).toNat.testBit (m+1)=false:=by
  cases (q%2==1)
  . simp
  rw[Nat.testBit_succ];simp
 have e0:(2*(q/2)).testBit (m+1)=(q/2).testBit m:=by
  rw[Nat.testBit_succ];congr 1;omega
 rw[h3,e0,Nat.testBit_div_two,Bool.xor_false]
theorem Yka (l:List UInt8) (m t:Nat) (ht:t<=8) (b:Nat) (hb:b=(l.getD m 0).toNat):reg l (8*m+t)=Ul t (reg l (8*m) ^^^ b) ^^^ b/2^t:=by
 induction t with
 |zero=>simp[Ul,Nat.xor_assoc]
 |succ t ih=>
  have hd:dbit l (8*m+t)=(b/2^t%2==1):=by
   unfold dbit;have e1:(8*m+t)/8=m:=by omega
   have e2:(8*m+t)%8=t:=by omega
   rw[e1,e2,hb]
  show half (reg l (8*m+t) ^^^ (dbit l (8*m+t)).toNat)=half (Ul t _) ^^^ _;rw[ih (by omega),hd,Nat.xor_assoc,Yji,Yfa]
theorem YgL (C:Nat) (b:UInt8):Uv C b=Ul 8 (C ^^^ b.toNat):=by
 have hC:C ^^^ b.toNat=(C%256 ^^^ b.toNat) ^^^ 2^8*(C/256):=by
  have h1:C=(2^8*(C/256)) ^^^ (C%256):=by
   have h3:C%256<2^8:=by omega
   have h2:=Nat.two_pow_add_eq_or_of_lt h3 (C/256)
   have h4:2^8*(C/256)||| (C%256)=2^8*(C/256) ^^^ (C%256):=by
    apply Nat.eq_of_testBit_eq;intro j;rw[Nat.testBit_or,Nat.testBit_xor,Nat.testBit_two_pow_mul];by_cases hj:8<=j
    . have:(C%256).testBit j=false:=Nat.testBit_lt_two_pow (Qb h3 (Nat.pow_le_pow_right (by decide) hj))
      simp[this]
    simp[hj]
   rw[<-h4,<-h2];omega
  have h5:C ^^^ b.toNat=((2^8*(C/256)) ^^^ (C%256)) ^^^ b.toNat:=by rw[<-h1]
  rw[h5,Nat.xor_assoc,Nat.xor_comm]
 rw[hC,Ygz];rfl
theorem Ykb (l:List UInt8) (m:Nat) (hm:m<l.length):reg l (8*(m+1))=Uv (reg l (8*m)) l[m]:=by
 have hb:l.getD m 0=l[m]:=by rw[List.getD_eq_getElem?_getD,List.getElem?_eq_getElem hm];rfl
 have h:=Yka l m 8 (Qa _) l[m].toNat (by rw[hb])
 have h0:l[m].toNat/2^8=0:=by have:=l[m].toNat_lt;omega
 rw[h0,Nat.xor_zero] at h;have e:8*(m+1)=8*m+8:=by omega
 rw[e,h];exact(YgL _ _).symm
theorem Ym5 (l:List UInt8) (i:Nat):reg l i<4294967296:=by
 induction i with
 |zero=>exact(by decide:(4294967295:Nat)<4294967296)
 |succ i ih=>
  refine Ymt _ (Nat.xor_lt_two_pow (n:=32) ih ?_);cases dbit l i<;>decide
theorem YlW (l:List UInt8):reg l (8*l.length)=crcL 4294967295 l:=by
 have h:∀m,m<=l.length->reg l (8*m)=crcL 4294967295 (l.take m):=by
  intro m
  induction m with
  |zero=>intro _;rfl
  |succ m ih=>intro hm;rw[Ykb l m (by omega),Un _ _ _ (by omega),ih (by omega)]
 rw[h _ (Qa _),List.take_length]
theorem YlX (l:List UInt8) (n:Nat) (f:Nat->Bool) (h:RowAt l n (8*l.length) f) (hn:8*l.length+31<n):gat (fun m=>!f (8*l.length+m)) 32=VH 0 l:=by
 have hr:=Ym5 l (8*l.length);unfold VH;rw[Nat.sub_zero,<-YlW];refine Ymx _ _ hr fun m hm=>?_;rw[h (8*l.length+m) (by omega) (by omega),Nat.add_sub_cancel_left,Yfj l _ (by omega),Bool.xor_false]
theorem Ygs:(Tryz.prog.info? 4).map (fun i=>(i.zero,i.size,i.bytes))=some (some (.bool false),1,1):=by kernel_rfl
set_option maxHeartbeats 2000000 in
theorem Yba (s:ByteArray) (w:World) (hs:s.size<=65536) :
 Calls Tryz.prog 37 #[.string s] w fun e w'=>e=.returned (.int .u32 (VH 0 s.data.toList:Int))/\Below w.heap.size w w':=by
 obtain⟨n,hn⟩:∃n,n=8*s.size+32:=⟨_,rfl⟩;have hnI:8*(s.size:Int)+32=(n:Int):=by omega
 have hmk:=XC Tryz.underlying86 Ygs rfl n _ rfl (by omega) (by omega);have Hn:=Qf hn;have hn1:n<=524320:=by omega
 clear hn;go_enter Tryz.func37,Tryz.ntmps37;go_wp2_with fail
 go_loopw [4,16] (fun _ i wr=>∃k:Nat,k<=n/\i=.int .i64 (k:Int)/\Blk wr w.heap.size 4 (Yg n (UZ (first s.data.toList k)))/\Below w.heap.size w wr)
  (fun _ i _=>n-(intOf i).toNat)
 case atStart=>exact⟨0,by omega,rfl,Blk.new _ _ _,(Below.refl _ _).alloc (Qa _) _⟩
 clear hmk;obtain⟨k,hk,rfl,hB,hb⟩:=hrel;have hb0:=hb;by_cases hlt:k<n
 . have hf:=hB.frozen k
   have hc:=hB.cell k;rw[Yp _ _ _ hlt] at hc;by_cases h8:k<8*s.size
   . have h8':k/8<s.size:=by omega
     have hd:=YmK s k h8';have H1:=fun v=>hB.set_ k v;have hb1:=fun v=>hb.setCell (p:=⟨w.heap.size,k,none⟩) (Qa _) v;by_cases h32:k<32
     . have H2:=fun u v=>(H1 u).set_ k v
       have hb2:=fun u v=>(hb1 u).setCell (p:=⟨w.heap.size,k,none⟩) (Qa _) v;go_wp2_with fail;go_roundw
       case rel=>
        refine⟨k+1,by omega,by go_num,?_,hb2 _ _⟩;rw[<-Ybr s.data.toList k (!dbit s.data.toList k) (dbit s.data.toList k) (by simp[h32]),<-YA,<-YA];exact H2 _ _
       simp[intOf];omega
     go_wp2_with fail;go_roundw
     case rel=>
      refine⟨k+1,by omega,by go_num,?_,hb1 _⟩;rw[<-YaA s.data.toList k (dbit s.data.toList k) (by simp[h32]),<-YA];exact H1 _
     simp[intOf];omega
   have Hd:=Qf (Yfj s.data.toList k (by rw[Kz];omega));have H1:=fun v=>hB.set_ k v;have hb1:=fun v=>hb.setCell (p:=⟨w.heap.size,k,none⟩) (Qa _) v;by_cases h32:k<32
   . have H2:=fun u v=>(H1 u).set_ k v
     have hb2:=fun u v=>(hb1 u).setCell (p:=⟨w.heap.size,k,none⟩) (Qa _) v;go_wp2_with fail;go_roundw
     case rel=>
      refine⟨k+1,by omega,by go_num,?_,hb2 _ _⟩;rw[<-Ybr s.data.toList k true false (by simp[h32,Hd.out]),<-YA,<-YA];exact H2 _ _
     simp[intOf];omega
   go_wp2_with fail;go_roundw
   case rel=>
    refine⟨k+1,by omega,by go_num,?_,hb1 _⟩;rw[<-YaA s.data.toList k false (by simp[h32,Hd.out]),<-YA];exact H1 _
   simp[intOf];omega
 obtain rfl:k=n:=by omega
 go_wp2_with fail;clear hb
 go_loopw [5,6] (fun i _ wr=>∃(i':Nat) (f:Nat->Bool),i'<=8*s.size/\i=.int .i64 (i':Int)/\RowAt s.data.toList k i' f/\Blk wr w.heap.size 4 (Yg k (UZ f))/\Below w.heap.size w wr)
  (fun i _ _=>8*s.size-(intOf i).toNat)
 case atStart=>exact⟨0,first s.data.toList k,by omega,rfl,YdM _ _,hB,hb0⟩
 clear hB hb0;obtain⟨i,f,hi,rfl,hrow,hB,hb⟩:=hrel;have Hrow:=Qf hrow;clear hrow;by_cases hlt2:i<8*s.size
 . have hc:=hB.cell i
   rw[Yp _ _ _ (by omega)] at hc;unfold UZ at hc;cases hfi:f i
   . rw[hfi] at hc
     have Hs:=Qf (RowAt.skip Hrow.out (by omega) hfi);clear hfi;go_wp2_with fail;go_roundw
     case rel=>exact⟨i+1,f,by omega,by go_num,Hs.out,hB,hb⟩
     simp[intOf];omega
   rw[hfi] at hc;have Hs:=Qf (RowAt.flip Hrow.out (by omega) hfi);clear hfi;obtain⟨wo,rfl⟩:∃wo:World,wo=wr:=⟨_,rfl⟩;have hsz:8*s.size+32=k:=Hn.out.symm;have hik:i+32<k:=by omega
   clear hsz;go_wp2_with fail;clear hc
   go_loopw [6] (fun c wr=>∃c':Nat,c'<=33/\c=.int .i64 (c':Int)/\Blk wr w.heap.size 4 (Yg k (UZ (XV f i c')))/\Below w.heap.size w wr)
    (fun c _=>33-(intOf c).toNat)
   case atStart=>exact⟨0,by omega,rfl,by rw[Ydw];exact hB,hb⟩
   clear hB hb;obtain⟨c,hc33,rfl,hB,hb⟩:=hrel;by_cases hlt3:c<33
   . have hf:=hB.frozen (i+c)
     have hc:=hB.cell (i+c);rw[Yp _ _ _ (by omega)] at hc;unfold UZ at hc;have hpg:=YnE c hlt3;cases hpb:pb c
     . rw[hpb] at hpg
       have Hp:=Qf hpb;clear hpb;go_wp2_with fail;go_roundw
       case rel=>exact⟨c+1,by omega,by go_num,by rw[Ydy _ _ _ Hp.out];exact hB,hb⟩
       simp[intOf];omega
     rw[hpb] at hpg;have Hp:=Qf hpb;have H1:=hB.set_ (i+c) (.bool (!XV f i c (i+c)));have hb1:=hb.setCell (p:=⟨w.heap.size,i+c,none⟩) (Qa _) (.bool (!XV f i c (i+c)));clear hpb;go_wp2_with fail;go_roundw
     case rel=>
      refine⟨c+1,by omega,by go_num,?_,hb1⟩;rw[<-Ydx _ _ _ Hp.out,<-YA];exact H1
     simp[intOf];omega
   obtain rfl:c=33:=by omega
   go_wp2_with fail;go_roundw
   case rel=>exact⟨i+1,_,by omega,by go_num,Hs.out,hB,hb⟩
   simp[intOf];omega
 obtain rfl:i=8*s.size:=by omega
 have hsz:8*s.size+32=k:=Hn.out.symm;have hik:8*s.size+31<k:=by omega
 clear hsz;go_wp2_with fail
 go_loop [7,8] (fun x i=>∃j:Nat,j<=32/\i=.int .i64 (j:Int)/\x=.int .u32 (gat (fun m=>!f (8*s.size+m)) j:Int))
  (fun _ i=>32-(intOf i).toNat)
 case atStart=>exact⟨0,by omega,rfl,rfl⟩
 obtain⟨j,hj,rfl,rfl⟩:=hrel;have hg:=Ylq (fun m=>!f (8*s.size+m)) j;have Hg:Hid (gat (fun m=>!f (8*s.size+m)) (j+1)=gat (fun m=>!f (8*s.size+m)) j+if !f (8*s.size+j) then 2^j else 0):=rfl;by_cases hlt4:j<32
 . have hc:=hB.cell (8*s.size+j)
   rw[Yp _ _ _ (by omega)] at hc;unfold UZ at hc;generalize gat (fun m=>!f (8*s.size+m)) j=x at *;cases hfj:f (8*s.size+j)
   . rw[hfj] at hc Hg
     clear hfj;go_wp2_with fail
     go_round
     case rel=>exact⟨j+1,by omega,by go_num,by rw[Hg.out,Ymz x j hg hlt4];simp⟩
     simp[intOf];omega
   rw[hfj] at hc Hg;clear hfj;go_wp2_with fail
   go_round
   case rel=>exact⟨j+1,by omega,by go_num,by rw[Hg.out];simp⟩
   simp[intOf];omega
 obtain rfl:j=32:=by omega
 have He:=Qf (YlX s.data.toList k f (by rw[Kz];exact Hrow.out) (by rw[Kz];exact hik));rw[Kz] at He;go_wp2_with fail;go_ret;exact⟨by rw[He.out];rfl,hb⟩
def OwnI (w:World) (base:Nat) (n:Nat) (m:Nat->Int) (v:Value):Prop:=∃g cap,v=.slice (some ⟨g,0,none⟩) n cap/\w.ownsRow base 3 1 (.slice (some ⟨g,0,none⟩) n cap) n (Yt n m)
def Ydq (n:Nat) (m:Nat->Int) (k:Nat):Prop:=
 (k=2/\320<n)\/(k=1/\n<=320/\∃i,i<n/\¬(0<=m i/\m i<=15))\/
 (k=4/\n<=320/\(∀i,i<n->0<=m i/\m i<=15)/\¬Fits (parts (lens m) n) (YG (lens m) n))\/
 (k=0/\n<=320/\(∀i,i<n->0<=m i/\m i<=15)/\Fits (parts (lens m) n) (YG (lens m) n))
theorem Yd0 (n:Nat) (m:Nat->Int):∃k,Ydq n m k:=by
 unfold Ydq;by_cases h1:320<n
 . exact⟨2,.inl ⟨rfl,h1⟩⟩
 by_cases h2:∃i,i<n/\¬(0<=m i/\m i<=15)
 . exact⟨1,.inr (.inl ⟨rfl,by omega,h2⟩)⟩
 have h2':∀i,i<n->0<=m i/\m i<=15:=fun i hi=>Decidable.byContradiction fun h=>h2 ⟨i,hi,h⟩;by_cases h3:Fits (parts (lens m) n) (YG (lens m) n)
 . exact⟨0,.inr (.inr (.inr ⟨rfl,by omega,h2',h3⟩))⟩
 exact⟨4,.inr (.inr (.inl ⟨rfl,by omega,h2',h3⟩))⟩
def Ui (L:Nat->Nat) (n:Nat):Nat:=Jq (fun t=>decide (L t=1)) n
theorem UQ (L:Nat->Nat) (k:Nat):Ui L (k+1)=Ui L k+if L k=1 then 1 else 0:=by
 unfold Ui;simp[Jq]
theorem Yna (l:Nat) (h0:0<l) (h15:l<=15):pt l=16384 ↔ l=1:=by
 unfold pt;rw[if_pos h0];constructor
 . intro h
   by_cases e:l=1
   . exact e
   have h1:2^(15-l)<=2^13:=Nat.pow_le_pow_right (by decide) (by omega);have h2:(2:Nat)^13=8192:=by decide
   omega
 rintro rfl;decide
theorem YmA (L:Nat->Nat) (k:Nat) (h15:∀i,i<k->L i<=15):(YG L k=0->parts L k=0/\Ui L k=0)/\(YG L k=1->(parts L k=16384 ↔ Ui L k=1)):=by
 induction k with
 |zero=>exact⟨fun _=>⟨rfl,rfl⟩,fun h=>by simp[YG,Jq] at h⟩
 |succ k ih=>
  obtain⟨i1,i2⟩:=ih fun i hi=>h15 i (by omega);rw[KK,Kg,UQ];by_cases h0:0<L k
  . rw[if_pos h0]
    refine⟨fun h=>by omega,fun h=>?_⟩;obtain⟨j1,j2⟩:=i1 (by omega);rw[j1,j2,Nat.zero_add,Nat.zero_add];have:=Yna (L k) h0 (h15 k (by omega));by_cases e:L k=1
    . rw[if_pos e];exact⟨fun _=>rfl,fun _=>this.2 e⟩
    rw[if_neg e];exact⟨fun h=>absurd (this.1 h) e,fun h=>by omega⟩
  have e0:pt (L k)=0:=by unfold pt;rw[if_neg h0]
  rw[if_neg h0,e0,if_neg (by omega)];exact⟨i1,i2⟩
theorem YmB (L:Nat->Nat) (n:Nat) (h15:∀i,i<n->L i<=15):Fits (parts L n) (YG L n) ↔ (YG L n=0\/parts L n=32768\/YG L n=1/\Ui L n=1):=by
 obtain⟨h1,h2⟩:=YmA L n h15;unfold Fits;constructor
 . rintro ⟨_,h|h|⟨h,h'⟩⟩
   . exact .inr (.inl h)
   . exact .inl h
   exact .inr (.inr ⟨h,(h2 h).1 h'⟩)
 rintro (h|h|⟨h,h'⟩)
 . exact⟨by rw[(h1 h).1];omega,.inr (.inl h)⟩
 . exact⟨by omega,.inl h⟩
 have:=(h2 h).2 h';exact⟨by omega,.inr (.inr ⟨h,this⟩)⟩
theorem YkF (i:Nat) (h:i<15):2^(15-i)/2=2^(15-(i+1)):=by
 rw[show 15-i=15-(i+1)+1 by omega,Nat.pow_succ,Nat.mul_div_cancel _ (by decide)]
set_option maxHeartbeats 8000000 in
theorem Yd9 (a:Option Addr) (n cap:Nat) (m:Nat->Int) (hn:n<=1000000) (k:Nat) (hk:Ydq n m k) (w:World) (hr:IRow w a n m) :
 Calls Tryz.prog 104 #[.slice a n cap] w fun e w'=>e=.returned (.int .i64 (k:Int))/\w'=w:=by
 have Hr:=Qf hr;have Hk:=Qf hk;clear hr hk;by_cases h320:320<n
 . have d0:decide ((320:Int)<(n:Int))=true:=Qg (by omega)
   obtain rfl:k=2:=by
    rcases Hk.out with⟨h,_⟩|⟨_,h,_⟩|⟨_,h,_⟩|⟨_,h,_⟩<;>omega
   go_enter Tryz.func104,Tryz.ntmps104;go_wp2_with fail;go_ret;exact⟨rfl,rfl⟩
 have d0:decide ((320:Int)<(n:Int))=false:=Qh (by omega);go_enter Tryz.func104,Tryz.ntmps104;go_wp2_with fail
 go_loopw [17] (fun i_ wr=>∃i:Nat,i<=n/\i_=.int .i64 (i:Int)/\Hid (∀j,j<i->0<=m j/\m j<=15)/\Hid (wr=w)) (fun i _=>n-(intOf i).toNat)
 case atStart=>exact⟨0,by omega,rfl,(fun j hj=>by omega),rfl⟩
 obtain⟨i,hi,rfl,HA,HW⟩:=hrel;have HRw:Hid (IRow wr a n m):=by show IRow _ _ _ _;rw[HW.out];exact Hr.out
 by_cases hlt:i<n
 . have d1:decide ((i:Int)<(n:Int))=true:=Qg (by omega)
   obtain⟨b,off,rfl,_,c0⟩:=HRw.out.get i hlt;obtain⟨x,Hx⟩:=Qi (m i);rw[Hx.out] at c0;by_cases hx0:x<0
   . have d2:decide (x<0)=true:=by rw[decide_eq_true_eq];exact hx0
     obtain rfl:k=1:=by
      rcases Hk.out with⟨_,h⟩|⟨h,_⟩|⟨_,_,h,_⟩|⟨_,_,h,_⟩
      . omega
      . exact h
      . have:=h i hlt;rw[Hx.out] at this;omega
      have:=h i hlt;rw[Hx.out] at this;omega
     go_wp2_with fail;go_ret;exact⟨rfl,HW.out⟩
   have d2:decide (x<0)=false:=by rw[decide_eq_false_iff_not];exact hx0
   by_cases hx1:15<x
   . have d3:decide (15<x)=true:=by rw[decide_eq_true_eq];exact hx1
     obtain rfl:k=1:=by
      rcases Hk.out with⟨_,h⟩|⟨h,_⟩|⟨_,_,h,_⟩|⟨_,_,h,_⟩
      . omega
      . exact h
      . have:=h i hlt;rw[Hx.out] at this;omega
      have:=h i hlt;rw[Hx.out] at this;omega
     go_wp2_with fail;go_ret;exact⟨rfl,HW.out⟩
   have d3:decide (15<x)=false:=by rw[decide_eq_false_iff_not];exact hx1
   have HA2:Hid (∀j,j<i+1->0<=m j/\m j<=15):=by
    intro j hj;by_cases e:j=i
    . subst e;rw[Hx.out];omega
    exact HA.out j (by omega)
   go_wp2_with fail;go_roundw
   case rel=>exact⟨i+1,by omega,by go_num,HA2,HW⟩
   simp[intOf];omega
 obtain rfl:i=n:=by omega
 have d1:decide ((i:Int)<(i:Int))=false:=Qh (by omega);obtain⟨L,HL⟩:=Qi (lens m)
 have HmL:Hid (∀j,j<i->m j=(L j:Int)/\L j<=15):=fun j hj=>by
  have:=HA.out j hj;rw[<-HL.out];unfold lens;omega
 go_wp2_with fail
 go_loopw [5,6,7,30] (fun p_ s_ o_ i_ wr=>∃j p s o:Nat,j<=i/\i_=.int .i64 (j:Int)/\p_=.int .i64 (p:Int)/\s_=.int .i64 (s:Int)/\o_=.int .i64 (o:Int)/\p<=32768*j/\s<=j/\o<=j/\Hid (parts L j=p)/\Hid (YG L j=s)/\Hid (Ui L j=o)/\Hid (wr=w)) (fun _ _ _ i_ _=>i-(intOf i_).toNat)
 case atStart=>exact⟨0,0,0,0,by omega,rfl,rfl,rfl,rfl,by omega,by omega,by omega,rfl,rfl,rfl,HW⟩
 clear d1;obtain⟨j,p,s,o,hj,rfl,rfl,rfl,rfl,hp,hs,ho,Hp,Hs,Ho,HW⟩:=hrel;have HRw:Hid (IRow wr a i m):=by show IRow _ _ _ _;rw[HW.out];exact Hr.out
 by_cases hjl:j<i
 . have d1:decide ((j:Int)<(i:Int))=true:=Qg (by omega)
   obtain⟨b,off,rfl,_,c0⟩:=HRw.out.get j hjl;obtain⟨e1,hl15⟩:=HmL.out j hjl;obtain⟨l,Hl⟩:=Qi (L j);rw[e1,Hl.out] at c0;rw[Hl.out] at hl15;clear e1;by_cases hl0:0<l
   . have d2:decide (0<(l:Int))=true:=Qg (by omega)
     obtain⟨P2,HP2⟩:=Qi (2^(15-l))
     have hP2:P2<=32768:=by
      rw[<-HP2.out];exact Qe (Nat.pow_le_pow_right (n:=2) (i:=15-l) (j:=15) (by decide) (by omega)) (by decide)
     have Hp2:Hid (parts L (j+1)=p+P2):=by
      show _=_;rw[Kg,Hp.out,Hl.out];unfold pt;rw[if_pos hl0,HP2.out]
     have Hs2:Hid (YG L (j+1)=s+1):=by
      show _=_;rw[KK,Hs.out,Hl.out,if_pos hl0]
     go_wp2_with fail
     go_loopw [10,11] (fun q_ r_ wr=>∃q r:Nat,r<=l/\r_=.int .i64 (r:Int)/\q_=.int .i64 (q:Int)/\q<=32768/\Hid (2^(15-r)=q)/\Hid (wr=w)) (fun _ r _=>l-(intOf r).toNat)
     case atStart=>exact⟨32768,0,by omega,rfl,rfl,by omega,by show _=_;decide,HW⟩
     obtain⟨q,r,hr1,rfl,rfl,hq,Hq,HW3⟩:=hrel;by_cases hrl:r<l
     . have d3:decide ((r:Int)<(l:Int))=true:=Qg (by omega)
       obtain⟨q2,Hq2⟩:=Qi (q/2)
       have e1:(q:Int)/2=(q2:Int):=by have:=Hq2.out;omega
       have e2:(q:Int).tdiv 2=(q2:Int):=by rw[Int.tdiv_eq_ediv_of_nonneg (by omega)];exact e1
       have Hq3:Hid (2^(15-(r+1))=q2):=by
        show _=_;rw[<-YkF r (by omega),Hq.out,Hq2.out]
       have hq2:q2<=32768:=by have:=Hq2.out;omega
       go_wp2_with fail;go_roundw
       case rel=>exact⟨q2,r+1,by omega,by go_num,rfl,hq2,Hq3,HW3⟩
       simp[intOf];omega
     obtain rfl:r=l:=(by omega);have d3:decide ((r:Int)<(r:Int))=false:=Qh (by omega);obtain rfl:q=P2:=(by rw[<-Hq.out,HP2.out]);by_cases h1:r=1
     . subst h1
       have Ho2:Hid (Ui L (j+1)=o+1):=by
        show _=_;rw[UQ,Ho.out,Hl.out,if_pos rfl]
       go_wp2_with fail;go_roundw
       case rel=>exact⟨j+1,p+q,s+1,o+1,by omega,by go_num,by go_num,by go_num,by go_num,by omega,by omega,by omega,Hp2,Hs2,Ho2,HW3⟩
       simp[intOf];omega
     have d4:((r:Int)==1)=false:=by simp;omega
     have Ho2:Hid (Ui L (j+1)=o):=by
      show _=_;rw[UQ,Ho.out,Hl.out,if_neg h1,Nat.add_zero]
     go_wp2_with fail;go_roundw
     case rel=>exact⟨j+1,p+q,s+1,o,by omega,by go_num,by go_num,by go_num,rfl,by omega,by omega,by omega,Hp2,Hs2,Ho2,HW3⟩
     simp[intOf];omega
   obtain rfl:l=0:=by omega
   have Hp2:Hid (parts L (j+1)=p):=by
    show _=_;rw[Kg,Hp.out,Hl.out];rfl
   have Hs2:Hid (YG L (j+1)=s):=by
    show _=_;rw[KK,Hs.out,Hl.out];rfl
   have Ho2:Hid (Ui L (j+1)=o):=by
    show _=_;rw[UQ,Ho.out,Hl.out];rfl
   go_wp2_with fail;go_roundw
   case rel=>exact⟨j+1,p,s,o,by omega,by go_num,rfl,rfl,rfl,by omega,by omega,by omega,Hp2,Hs2,Ho2,HW⟩
   simp[intOf];omega
 obtain rfl:j=i:=by omega
 have d1:decide ((j:Int)<(j:Int))=false:=Qh (by omega);have hfit:=YmB L j (fun t ht=>(HmL.out t ht).2);rw[Hs.out,Hp.out,Ho.out] at hfit;have hkk:=Hk.out;unfold Ydq at hkk;rw[HL.out,Hp.out,Hs.out] at hkk
 have hk04:(k=0/\(s=0\/p=32768\/s=1/\o=1))\/(k=4/\¬(s=0\/p=32768\/s=1/\o=1)):=by
  rcases hkk with⟨_,h⟩|⟨_,_,t,ht,h⟩|⟨h,_,_,h'⟩|⟨h,_,_,h'⟩
  . omega
  . exact absurd (HA.out t ht) h
  . exact .inr ⟨h,fun h2=>h' (hfit.2 h2)⟩
  exact .inl ⟨h,hfit.1 h'⟩
 clear hfit hkk Hk HmL HA HL;by_cases hs0:s=0
 . subst hs0
   obtain rfl:k=0:=by omega
   clear hk04;go_wp2_with fail;go_ret;exact⟨rfl,HW.out⟩
 have f1:((s:Int)==0)=false:=by simp;omega
 by_cases hp0:p=32768
 . subst hp0
   obtain rfl:k=0:=by omega
   clear hk04;go_wp2_with fail;go_ret;exact⟨rfl,HW.out⟩
 have f2:((p:Int)==32768)=false:=by simp;omega
 by_cases hs1:s=1
 . subst hs1
   by_cases ho1:o=1
   . subst ho1
     obtain rfl:k=0:=(by omega);clear hk04;go_wp2_with fail;go_ret;exact⟨rfl,HW.out⟩
   have f3:((o:Int)==1)=false:=by simp;omega
   obtain rfl:k=4:=by omega
   clear hk04;go_wp2_with fail;go_ret;exact⟨rfl,HW.out⟩
 have f3:((s:Int)==1)=false:=by simp;omega
 obtain rfl:k=4:=by omega
 clear hk04;go_wp2_with fail;go_ret;exact⟨rfl,HW.out⟩
def Uo (L:Nat->Nat) (s k:Nat):Nat:=YM (fun t=>if Xa L t s then 2^(L s-L t) else 0) k
theorem YaJ (L:Nat->Nat) (s k:Nat):Uo L s (k+1)=Uo L s k+(if Xa L k s then 2^(L s-L k) else 0):=rfl
theorem YgR (L:Nat->Nat) (s k:Nat) (h15:L s<=15):YM (fun t=>if Xa L t s then pt (L t) else 0) k=Uo L s k*2^(15-L s):=by
 induction k with
 |zero=>simp[YM,Uo]
 |succ k ih=>
  show YM _ k+_=_;rw[ih,YaJ,Nat.add_mul]
  congr 1
  show(if Xa L k s=true then pt (L k) else 0)=_;by_cases h:Xa L k s=true
  . rw[if_pos h,if_pos h]
    unfold Xa at h;simp at h;unfold pt;rw[if_pos h.1,<-Nat.pow_add]
    congr 1
    omega
  rw[if_neg h,if_neg h,Nat.zero_mul]
theorem YgS (L:Nat->Nat) (n s:Nat) (h15:L s<=15):Uo L s n=Ko L n s:=by
 unfold Ko pre;rw[YgR L s n h15,Nat.mul_div_cancel _ (pow_pos2' _)]
where pow_pos2' (k:Nat):0<2^k:=Nat.pow_pos (by decide)
theorem Yjc (L:Nat->Nat) (s k:Nat) (h15:L s<=15):Uo L s k<=32768*k:=by
 unfold Uo;refine J9 _ _ _ fun j _=>?_;split
 . exact Qe (Nat.pow_le_pow_right (n:=2) (i:=L s-L j) (j:=15) (by decide) (by omega)) (by decide)
 omega
set_option maxHeartbeats 8000000 in
theorem YkU (a:Option Addr) (n cap:Nat) (m:Nat->Int) (hn:n<=320) (h15:∀i,i<n->0<=m i/\m i<=15) (s:Nat) (hs:s<n) (w:World) (hr:IRow w a n m) :
 Calls Tryz.prog 118 #[.slice a n cap,.int .i64 (s:Int)] w fun e w'=>e=.returned (.int .u32 (Ko (lens m) n s:Int))/\w=w':=by
 have Hr:=Qf hr;obtain⟨L,HL⟩:=Qi (lens m);rw[HL.out]
 have HmL:Hid (∀j,j<n->m j=(L j:Int)/\L j<=15):=fun j hj=>by
  have:=h15 j hj;rw[<-HL.out];unfold lens;omega
 obtain⟨e1,hls15⟩:=HmL.out s hs;have Hend:=Qf (YgS L n s hls15);have Hle:=Qf (fun k=>Yjc L s k hls15);obtain⟨b,off,rfl,_,cs⟩:=hr.get s hs;obtain⟨l,Hl⟩:=Qi (L s);rw[e1,Hl.out] at cs;rw[Hl.out] at hls15;have hsn:(s:Int)<(n:Int):=by omega
 clear hr h15 e1;go_enter Tryz.func118,Tryz.ntmps118;go_wp2_with fail
 go_loopw [5,10] (fun x_ i_ wr=>∃i x:Nat,i<=n/\i_=.int .i64 (i:Int)/\x_=.int .u32 (x:Int)/\x<=32768*i/\Hid (Uo L s i=x)/\Hid (w=wr)) (fun _ i _=>n-(intOf i).toNat)
 case atStart=>exact⟨0,0,by omega,rfl,rfl,by omega,rfl,rfl⟩
 obtain⟨i,x,hi,rfl,rfl,hx,Hx,HW⟩:=hrel;have HRw:Hid (IRow wr (some ⟨b,off,none⟩) n m):=by show IRow _ _ _ _;rw[<-HW.out];exact Hr.out
 have cs2:wr.cell? ⟨b,off+s,none⟩=some (.int .i64 (l:Int)):=by rw[<-HW.out];exact cs
 by_cases hlt:i<n
 . have d1:decide ((i:Int)<(n:Int))=true:=Qg (by omega)
   obtain⟨b',off',e,_,c0⟩:=HRw.out.get i hlt;injection e with e;injection e with e2 e3;subst e2 e3;obtain⟨e1,hli15⟩:=HmL.out i hlt;obtain⟨k,Hk⟩:=Qi (L i);rw[e1,Hk.out] at c0;rw[Hk.out] at hli15;have hst:=YaJ L s i;rw[Hx.out] at hst;clear e1
   have skip:¬Xa L i s=true->Hid (Uo L s (i+1)=x):=fun h=>by
    show _=_;rw[hst,if_neg h,Nat.add_zero]
   obtain⟨d,Hd⟩:=Qi (l-k);obtain⟨Y,HY⟩:=Qi (2^d)
   have hY:Y<=32768:=by
    rw[<-HY.out];exact Qe (Nat.pow_le_pow_right (n:=2) (i:=d) (j:=15) (by decide) (by have:=Hd.out;omega)) (by decide)
   have take:Xa L i s=true->Hid (Uo L s (i+1)=x+Y):=fun h=>by
    show _=_;rw[hst,if_pos h,Hl.out,Hk.out,Hd.out,HY.out]
   have wY:IntKind.u32.wrap ((2:Int)^d)=(Y:Int):=by
    have e:(2:Int)^d=((2^d:Nat):Int):=(by simp);rw[e,HY.out,IntKind.wrap_u32];omega
   have wY2:(2:Int)^d%4294967296=(Y:Int):=by
    have e:(2:Int)^d=((2^d:Nat):Int):=(by simp);rw[e,HY.out];omega
   have md:min d 32=d:=by have:=Hd.out;omega
   have Hskip:=Qf skip;have Htake:=Qf take;have hahd:Xa L i s=(decide (0<k)&&(decide (k<l)||(decide (k=l)&&decide (i<s)))):=by unfold Xa;rw[Hl.out,Hk.out]
   have Hahd:=Qf hahd;clear skip take hahd hst;by_cases hk0:0<k
   . have f0:decide (0<(k:Int))=true:=Qg (by omega)
     by_cases hkl:k<l
     . have f1:decide ((k:Int)<(l:Int))=true:=Qg (by omega)
       have hd:(l:Int)-(k:Int)=(d:Int):=by have:=Hd.out;omega
       have H2:=Htake.out (by rw[Hahd.out,decide_eq_true hk0,decide_eq_true hkl];rfl);go_wp2_with fail;go_roundw
       case rel=>exact⟨i+1,x+Y,by omega,by go_num,by go_num,by omega,H2,HW⟩
       simp[intOf];omega
     have f1:decide ((k:Int)<(l:Int))=false:=Qh (by omega);by_cases hke:k=l
     . subst hke
       by_cases his:i<s
       . have f3:decide ((i:Int)<(s:Int))=true:=Qg (by omega)
         have hd:(k:Int)-(k:Int)=(d:Int):=by have:=Hd.out;omega
         have hd0:d=0:=by have:=Hd.out;omega
         have H2:=Htake.out (by rw[Hahd.out,decide_eq_true hk0,decide_eq_true his];simp);subst hd0;have hY1:Y=1:=HY.out.symm;subst hY1;go_wp2_with fail;go_roundw
         case rel=>exact⟨i+1,x+1,by omega,by go_num,by go_num,by omega,H2,HW⟩
         simp[intOf];omega
       have f3:decide ((i:Int)<(s:Int))=false:=Qh (by omega);have H2:=Hskip.out (by rw[Hahd.out,decide_eq_false his];simp);go_wp2_with fail;go_roundw
       case rel=>exact⟨i+1,x,by omega,by go_num,rfl,by omega,H2,HW⟩
       simp[intOf];omega
     have f2:((k:Int)==(l:Int))=false:=(by simp;omega);have H2:=Hskip.out (by rw[Hahd.out,decide_eq_false hkl,decide_eq_false hke];simp);go_wp2_with fail;go_roundw
     case rel=>exact⟨i+1,x,by omega,by go_num,rfl,by omega,H2,HW⟩
     simp[intOf];omega
   obtain rfl:k=0:=by omega
   have H2:=Hskip.out (by rw[Hahd.out];simp);go_wp2_with fail;go_roundw
   case rel=>exact⟨i+1,x,by omega,by go_num,rfl,by omega,H2,HW⟩
   simp[intOf];omega
 obtain rfl:i=n:=by omega
 have d1:decide ((i:Int)<(i:Int))=false:=Qh (by omega);have e:Ko L i s=x:=by rw[<-Hend.out];exact Hx.out
 have He:=Qf e;clear e;go_wp2_with fail;go_ret;exact⟨by rw[He.out];rfl,HW.out⟩
theorem Yc5:(Tryz.prog.info? 40).map (fun i=>(i.zero,i.size,i.bytes))=some (some (.int .u32 0),1,4):=by kernel_rfl
def URow (w:World) (a:Option Addr) (n:Nat) (F:Nat->Nat):Prop:=
 n=0\/∃b off,a=some ⟨b,off,none⟩/\b<w.heap.size/\∀i,i<n->w.cell? ⟨b,off+i,none⟩=some (.int .u32 (F i:Int))
theorem URow.get {w:World} {a:Option Addr} {n:Nat} {F:Nat->Nat} (h:URow w a n F) (i:Nat) (hi:i<n):∃b off,a=some ⟨b,off,none⟩/\b<w.heap.size/\w.cell? ⟨b,off+i,none⟩=some (.int .u32 (F i:Int)):=by
 rcases h with h|⟨b,off,h1,h2,h3⟩
 . omega
 exact⟨b,off,h1,h2,h3 i hi⟩
def X9 (n:Nat) (F:Nat->Nat):List Value:=(List.range n).map fun i=>.int .u32 (F i:Int)
theorem Yhi (n:Nat) (F:Nat->Nat) (i:Nat) (h:i<n):(X9 n F)[i]?=some (.int .u32 (F i:Int)):=by simp[X9,h]
theorem Ydv (n:Nat) (F:Nat->Nat):X9 (n+1) F=X9 n F++[.int .u32 (F n:Int)]:=by simp[X9,List.range_succ]
theorem Ydu {w:World} {base n:Nat} {F:Nat->Nat} {v:Value} (h:w.ownsRow base 40 1 v n (X9 n F)):∃a cap,v=.slice a n cap/\URow w a n F/\∀b off sp,a=some ⟨b,off,sp⟩->base<=b/\b<w.heap.size:=by
 have hlt:=World.ownsRow.lt h;rcases h.2 with⟨rfl,h0⟩|⟨g,cap,cur,rfl,_⟩
 . exact⟨none,0,by rw[h0],.inl h0,fun b off sp e=>by cases e⟩
 refine⟨some ⟨g,0,none⟩,cap,rfl,.inr ⟨g,0,rfl,(hlt g rfl).2,fun i hi=>?_⟩,fun b off sp e=>?_⟩
 . rw[Nat.zero_add,World.ownsRow.cellAt h i (by omega)]
   exact Yhi n F i hi
 injection e with e;injection e with e1;rw[<-e1];exact hlt g rfl
set_option maxHeartbeats 4000000 in
theorem J5 (a:Option Addr) (n cap:Nat) (m:Nat->Int) (hn:n<=320) (h15:∀i,i<n->0<=m i/\m i<=15) (w:World) (hr:IRow w a n m) :
 Calls Tryz.prog 106 #[.slice a n cap] w fun e w'=>∃v,e=.returned v/\w'.ownsRow w.heap.size 40 1 v n (X9 n (YD (lens m) n))/\Below w.heap.size w w':=by
 have Hr:=Qf hr;have H15:=Qf h15;have hb0:=(Below.refl w.heap.size w).alloc (Qa _) (.cells #[] 40);have hr0:=World.ownsRow_made (base:=w.heap.size) (e:=40) (size:=1) w #[] 0 (Qa _) (Nat.zero_le _) rfl;obtain⟨L,HL⟩:=Qi (lens m);rw[HL.out];obtain⟨F,HF⟩:=Qi (YD (lens m) n)
 have HF':Hid (YD L n=F):=by show _=_;rw[<-HL.out];exact HF.out
 rw[HF'.out]
 have HmL:Hid (∀j,j<n->m j=(L j:Int)):=fun j hj=>by
  have:=h15 j hj;rw[<-HL.out];unfold lens;omega
 have HO0:Hid ((w.alloc (.cells #[] 40)).ownsRow w.heap.size 40 1 (.slice (some ⟨w.heap.size,0,none⟩) 0 0) 0 (X9 0 F)):=hr0;have HB0:=Qf hb0;clear hr h15 hb0 hr0;go_enter Tryz.func106,Tryz.ntmps106;go_wp2_with fail;obtain⟨w1,HW1⟩:=Qi (w.alloc (.cells #[] 40));rw[HW1.out] at HO0 HB0 ⊢;clear HW1
 go_loopw [3,9] (fun v_ i_ wr=>∃i:Nat,i<=n/\i_=.int .i64 (i:Int)/\Hid (wr.ownsRow w.heap.size 40 1 v_ i (X9 i F))/\Hid (Below w.heap.size w wr)) (fun _ i _=>n-(intOf i).toNat)
 case atStart=>exact⟨0,by omega,rfl,HO0,HB0⟩
 clear HO0 HB0;obtain⟨i,hi,rfl,HO,HB⟩:=hrel;by_cases hlt:i<n
 . have d1:decide ((i:Int)<(n:Int))=true:=Qg (by omega)
   have hlI:(i:Int)<(n:Int):=by omega
   have hrw:=Hr.out.below HB.out;have CC:=Qf (YkU a n cap m hn H15.out i hlt wr hrw);obtain⟨b,off,rfl,_,c0⟩:=hrw.get i hlt;have em:=HmL.out i hlt;obtain⟨l,Hl⟩:=Qi (L i);obtain⟨f,Hf⟩:=Qi (F i);rw[em,Hl.out] at c0;have hos:=HO.out;have hbsw:w.heap.size<=wr.heap.size:=HB.out.size;have hsucc:=Ydv i F;rw[Hf.out] at hsucc;have Hsucc:=Qf hsucc;clear em hrw hsucc;by_cases hl0:l=0
   . subst hl0
     have hf0:f=0:=by
      rw[<-Hf.out,<-HF'.out];unfold YD;rw[Hl.out];rfl
     subst hf0;simp at c0
     go_wp2_with (first
      |(at_builtin;go_must (refine Ya wr rfl (.tmp 20) (.tmp 22) rfl Tryz.underlying187 Yc5 rfl (by decide) w.heap.size _ i (X9 i F) [.int .u32 0] hos rfl ?_ rfl rfl rfl ?_ ?_ hbsw ?_;(intro y hy;simp at hy;subst hy;rfl);(unfold maxLen;omega);omega;intro v7 w7 hown7 hg7;have HO7:Hid (w7.ownsRow w.heap.size 40 1 v7 (i+1) (X9 (i+1) F)):=(by show World.ownsRow _ _ _ _ _ _ _;rw[Hsucc.out];exact hown7);have HB7:=Qf (HB.out.trans (Yb hos hg7 hbsw));clear hown7 hg7))
      |fail)
     go_roundw
     case rel=>exact⟨i+1,by omega,by go_num,HO7,HB7⟩
     simp[intOf];omega
   have f2:decide (0<(l:Int))=true:=Qg (by omega);have f3:decide (0<l)=true:=Qg (by omega)
   have hfc:Ko (lens m) n i=f:=by
    rw[<-Hf.out,<-HF'.out,HL.out];unfold YD;rw[if_pos (by rw[Hl.out];omega)]
   rw[hfc] at CC;clear hfc;go_wp2_with fail;refine CC.out.mono ?_;rintro e w6 ⟨rfl,rfl⟩;clear CC
   go_wp2_with (first
    |(at_builtin;go_must (refine Ya wr rfl (.tmp 20) (.tmp 22) rfl Tryz.underlying187 Yc5 rfl (by decide) w.heap.size _ i (X9 i F) [.int .u32 (f:Int)] hos rfl ?_ rfl rfl rfl ?_ ?_ hbsw ?_;(intro y hy;simp at hy;subst hy;rfl);(unfold maxLen;omega);omega;intro v7 w7 hown7 hg7;have HO7:Hid (w7.ownsRow w.heap.size 40 1 v7 (i+1) (X9 (i+1) F)):=(by show World.ownsRow _ _ _ _ _ _ _;rw[Hsucc.out];exact hown7);have HB7:=Qf (HB.out.trans (Yb hos hg7 hbsw));clear hown7 hg7))
    |fail)
   go_roundw
   case rel=>exact⟨i+1,by omega,by go_num,HO7,HB7⟩
   simp[intOf];omega
 obtain rfl:i=n:=by omega
 have d1:decide ((i:Int)<(i:Int))=false:=Qh (by omega);go_wp2_with fail;go_ret;exact⟨_,rfl,HO.out,HB.out⟩
def bval (V i:Nat):Value:=.bool (V.testBit i)
def X7 (n V:Nat):List Value:=(List.range n).map (bval V)
theorem JI (n V:Nat):(X7 n V).length=n:=by simp[X7]
theorem Yfn (n V i:Nat) (h:i<n):(X7 n V)[i]?=some (bval V i):=by simp[X7,h]
theorem Yjj (n V:Nat):∀u ∈ X7 n V,u.oneCell'=true:=by
 intro u hu;simp only[X7,List.mem_map] at hu;obtain⟨i,_,rfl⟩:=hu;rfl
theorem Yg3 (n V:Nat):X7 (n+1) V=X7 n V++[.bool (V.testBit n)]:=by simp[X7,List.range_succ,bval]
theorem Yas:(Tryz.prog.info? 4).map (fun i=>(i.zero,i.size,i.bytes))=some (some (.bool false),1,1):=by kernel_rfl
def BRow (w:World) (a:Option Addr) (n V:Nat):Prop:=
 n=0\/∃b off,a=some ⟨b,off,none⟩/\b<w.heap.size/\∀i,i<n->w.cell? ⟨b,off+i,none⟩=some (bval V i)
section
variable {w w':World} {a:Option Addr} {n V:Nat}
theorem BRow.get (h:BRow w a n V) (i:Nat) (hi:i<n):∃b off,a=some ⟨b,off,none⟩/\b<w.heap.size/\w.cell? ⟨b,off+i,none⟩=some (.bool (V.testBit i)):=by
 rcases h with h|⟨b,off,h1,h2,h3⟩
 . omega
 exact⟨b,off,h1,h2,h3 i hi⟩
theorem BRow.below {B:Nat} (h:BRow w a n V) (hb:Below B w w') (hB:w.heap.size<=B):BRow w' a n V:=by
 rcases h with h|⟨b,off,h1,h2,h3⟩
 . exact .inl h
 exact .inr ⟨b,off,h1,Qb h2 hb.size,fun i hi=>(hb.cell (p:=⟨b,off+i,none⟩) (show b<B by omega)).trans (h3 i hi)⟩
end
def OwnV (w:World) (base n V:Nat) (v:Value):Prop:=∃g cap,v=.slice (some ⟨g,0,none⟩) n cap/\w.ownsRow base 4 1 v n (X7 n V)
section
variable {w w':World} {base n V:Nat} {v:Value}
theorem OwnV.row {g cap:Nat} (h:w.ownsRow base 4 1 (.slice (some ⟨g,0,none⟩) n cap) n (X7 n V)):BRow w (some ⟨g,0,none⟩) n V:=by
 refine .inr ⟨g,0,rfl,(World.ownsRow.lt h g (by simp[Value.ownBlock])).2,fun i hi=>?_⟩;rw[Nat.zero_add,World.ownsRow.cellAt h i (by omega),Yfn n V i hi]
theorem OwnV.more (hn:0<n) (h:w.ownsRow base 4 1 v n (X7 n V)):OwnV w base n V v:=by
 obtain⟨g,cap,rfl,_⟩:=World.ownsRow.form h hn;exact⟨g,cap,rfl,h⟩
end
theorem UB {ops:Array Oper} {rest:List Oper} {o:Oper} {a:Act} {Q:Exit->Act->World->Prop} {w:World} (hgd:o.guard=none) (s x:Operand)
 (ho:o.op=.call { callee:=.builtin .append,args:=#[s,x],argTypes:=#[86,86] })
 (base:Nat) (v:Value) (n V0:Nat) (hown:w.ownsRow base 4 1 v n (X7 n V0)) (hs:a.eval s=v)
 (p:Option Addr) (k c V1:Nat) (hx:a.eval x=.slice p k c) (hr:BRow w p k V1) (hnil:p=none->k=0/\c=0)
 (h63:n+k<=1000000000) (hbase:base<=w.heap.size)
 (h:∀v' w',w'.ownsRow base 4 1 v' (n+k) (X7 n V0++X7 k V1)->w.grownBy w' v.ownBlock->(v=.slice none 0 0\/v' ≠ .slice none 0 0)->wpList Tryz.prog ops Q rest (a.put o.dst v') w') :
 wpList Tryz.prog ops Q (o::rest) a w:=by
 obtain⟨i0,hi,hz0,hz1,hz2⟩:=info_parts Yas;have hi':Tryz.prog.info? 4=some i0:=hi;rcases p with _|⟨b,off,sp⟩
 . obtain⟨rfl,rfl⟩:=hnil rfl
   refine wpList_append_own_none hgd s x 86 ho base 4 i0 1 Tryz.underlying86 hi' v n _ hs hown hx (h v w ?_ ?_ ?_)
   . simpa [X7] using hown
   . exact World.grownBy.refl w _
   by_cases e:v=.slice none 0 0
   . exact .inl e
   exact .inr e
 refine wpList_append_own w hgd s x 86 ho base 4 i0 (.bool false) 1 1 Tryz.underlying86 hi' hz0 hz1 hz2 rfl (by decide) v n _ hs hown ⟨b,off,sp⟩ k c (X7 k V1) hx (by rw[JI,Nat.mul_one]) ?_ (Yjj _ _) (by unfold maxLen;omega) (by omega) hbase ?_
 . intro j u hj
   have hjk:j<k:=by
    have:=(List.getElem?_eq_some_iff.1 hj).1
    rwa [JI] at this
   rw[Yfn k V1 j hjk] at hj;obtain⟨b',off',he,_,hc⟩:=hr.get j hjk;injection he with he;injection he with e1 e2 e3;subst e1 e2 e3;have e:(⟨b,off,none⟩:Addr).add j=⟨b,off+j,none⟩:=by unfold Addr.add;split<;>simp_all
   rw[e,hc];exact hj
 intro v' w' h1 h2 h3;refine h v' w' h1 h2 ?_;by_cases e:v=.slice none 0 0
 . exact .inl e
 exact .inr fun e2=>e (h3.1 e2).1
theorem UC {ops:Array Oper} {rest:List Oper} {o:Oper} {a:Act} {Q:Exit->Act->World->Prop} (w:World) (hgd:o.guard=none) (s x:Operand)
 (ho:o.op=.call { callee:=.builtin .append,args:=#[s,x],argTypes:=#[86,86] })
 (base:Nat) (v:Value) (n V:Nat) (b:Bool) (hown:OwnV w base n V v) (hb:V.testBit n=b) (hs:a.eval s=v)
 {sz:Nat} (hx:a.eval x=.slice (some ⟨sz,0,none⟩) 1 1) (hsize:sz=w.heap.size) (hn:n<1000000000) (hbase:base<=w.heap.size)
 (h:∀v' w',OwnV w' base (n+1) V v'->Below base w w'->wpList Tryz.prog ops Q rest (a.put o.dst v') w') :
 wpList Tryz.prog ops Q (o::rest) a (w.alloc (.cells #[.bool b] 4)):=by
 obtain⟨g,cap,hv,hown⟩:=hown
 refine Ya w hgd s x ho Tryz.underlying86 Yas rfl (by decide) base v n (X7 n V) [.bool b] hown rfl (by intro y hy;simp at hy;subst hy;rfl) hs hx hsize
  (by unfold maxLen;omega) (by omega) hbase ?_
 intro v' w' h2 h3;rw[<-hb,<-Yg3] at h2;exact h v' w' (OwnV.more (Nat.succ_pos _) h2) (Yb hown h3 hbase)
def bit (V i:Nat):Nat:=V/2^i%2
theorem Yk3 (V i:Nat):V.testBit i=decide (bit V i=1):=by
 unfold bit;rw[Nat.testBit_eq_decide_div_mod_eq]
theorem Ylv (V i:Nat):bit V i<2:=Nat.mod_lt _ (by decide)
theorem YmO (V n i:Nat) (hV:V<2^n) (h:n<=i):bit V i=0:=by
 unfold bit;rw[Nat.div_eq_of_lt (Qb hV (Nat.pow_le_pow_right (by decide) h))]
theorem YmP (a:Option Addr) (n cap V:Nat) (_hn:n<=1000000000) (hV:V<2^n) (i:Nat) (hi:i<=1000000000) (w:World) (hr:BRow w a n V) :
 Calls Tryz.prog 116 #[.slice a n cap,.int .i64 (i:Int)] w fun e w'=>e=.returned (.int .u32 (bit V i:Int))/\w=w':=by
 have d0:decide (0<=(i:Int))=true:=Qg (by omega);by_cases h:i<n
 . have d1:decide ((i:Int)<(n:Int))=true:=Qg (by omega)
   obtain⟨b,off,rfl,_,c0⟩:=hr.get i h;obtain⟨B,HB⟩:=Qi (V.testBit i);rw[HB.out] at c0;have hB:=HB.out;rw[Yk3] at hB;have hl:=Ylv V i
   cases B with
   |true=>
    have e:bit V i=1:=(by simpa using hB);rw[e];clear hr hV hB hl e HB;go_enter Tryz.func116,Tryz.ntmps116;go_wp2_with fail;go_ret;exact⟨rfl,rfl⟩
   |false=>
    have e:bit V i=0:=by
     have:¬bit V i=1:=(by simpa using hB);omega
    rw[e];clear hr hV hB hl e HB;go_enter Tryz.func116,Tryz.ntmps116;go_wp2_with fail;go_ret;exact⟨rfl,rfl⟩
 have d1:decide ((i:Int)<(n:Int))=false:=Qh (by omega);rw[YmO V n i hV (by omega)];clear hr hV;go_enter Tryz.func116,Tryz.ntmps116;go_wp2_with fail;go_ret;exact⟨rfl,rfl⟩
def part (V p n j:Nat):Bool->Nat
 |false=>V/2^p%2^j
 |true=>rev (V/2^p) j*2^(n-j)
theorem Yh5 (V p n j:Nat) (b:Bool) (h:j<n):part V p n (j+1) b=part V p n j b+bit V (p+j)*2^(if b then n-1-j else j):=by
 have e:V/2^p/2^j%2=bit V (p+j):=by unfold bit;rw[Nat.div_div_eq_div_mul,<-Nat.pow_add]
 cases b with
 |false=>
  unfold part;rw[Nat.pow_succ,Nat.mod_mul,e,Nat.mul_comm (2^j)];rfl
 |true=>
  unfold part;simp only[rev,e];rw[show n-j=(n-(j+1))+1 by omega,Nat.pow_succ,show n-1-j=n-(j+1) by omega,Nat.add_mul];simp only[if_true]
  have:rev (V/2^p) j*(2^(n-(j+1))*2)=2*rev (V/2^p) j*2^(n-(j+1)):=by
   rw[Nat.mul_comm (2^(n-(j+1))) 2,<-Nat.mul_assoc,Nat.mul_comm _ 2]
  omega
theorem Yl4 (V p n j:Nat) (b:Bool) (h:j<=n):part V p n j b<2^n:=by
 cases b with
 |false=>exact Qb (Nat.mod_lt _ (YY j)) (Nat.pow_le_pow_right (by decide) h)
 |true=>
  show rev (V/2^p) j*2^(n-j)<2^n;have h1:=Nat.mul_le_mul_right (2^(n-j)) (show rev (V/2^p) j+1<=2^j from YeK _ _);rw[<-Nat.pow_add,show j+(n-j)=n by omega,Nat.add_mul,Nat.one_mul] at h1;have:=YY (n-j);omega
theorem Yh4 (V p n:Nat) (b:Bool):part V p n 0 b=0:=by
 cases b with
 |false=>unfold part;exact Nat.mod_one _
 |true=>simp[part,rev]
def Ygl (V p n:Nat) (b:Bool):Nat:=part V p n n b
theorem Kw (V p n:Nat):Ygl V p n false=V/2^p%2^n:=rfl
theorem Ygk (V p n:Nat):Ygl V p n true=rev (V/2^p%2^n) n:=by
 unfold Ygl part;rw[Nat.sub_self,Nat.pow_zero,Nat.mul_one,Yak _ _ _ (Qa _)]
theorem K7 (a:Option Addr) (n cap V:Nat) (hn:n<=900000000) (hV:V<2^n) (p k:Nat) (hp:p<=900000000) (hk:k<=32) (b:Bool) (w:World) (hr:BRow w a n V) :
 Calls Tryz.prog 102 #[.slice a n cap,.int .i64 (p:Int),.int .i64 (k:Int),.bool b] w fun e w'=>e=.returned (.int .u32 (Ygl V p k b:Int))/\w=w':=by
 have Hr:=Qf hr;have HV:=Qf hV;clear hr hV;go_enter Tryz.func102,Tryz.ntmps102;go_wp2_with fail
 go_loopw [9,10] (fun x i wr=>∃j A:Nat,j<=k/\i=.int .i64 (j:Int)/\x=.int .u32 (A:Int)/\A<4294967296/\Hid (part V p k j b=A)/\wr=w) (fun _ i _=>k-(intOf i).toNat)
 case atStart=>exact⟨0,0,by omega,rfl,rfl,by decide,Yh4 V p k b,rfl⟩
 obtain⟨j,A,hj,rfl,rfl,hA,HA,rfl⟩:=hrel;by_cases hlt:j<k
 . have CB:=Qf (YmP a n cap V (by omega) HV.out (p+j) (by omega) _ Hr.out)
   obtain⟨B,HB⟩:=Qi (bit V (p+j));have hBl:B<2:=by rw[<-HB.out];exact Ylv _ _
   rw[HB.out] at CB;have e1:((p+j:Nat):Int)=(p:Int)+(j:Int):=by omega
   rw[e1] at CB;have d1:decide ((j:Int)<(k:Int))=true:=Qg (by omega);obtain⟨t,Ht⟩:=Qi ((if b then k-1-j else j))
   have htl:t<=31:=by have:=Ht.out;split at this<;>omega
   have hst:=Yh5 V p k j b hlt;have hlt2:=Yl4 V p k (j+1) b hlt;rw[HA.out,HB.out,Ht.out] at hst;have hk2:2^k<=4294967296:=Qe (Nat.pow_le_pow_right (by decide) hk) (by decide);obtain⟨D,HD⟩:=Qi (B*2^t);rw[HD.out] at hst;rw[hst] at hlt2
   have w1:IntKind.u32.wrap ((B:Int)*2^t)=(D:Int):=by
    have e:(B:Int)*2^t=((B*2^t:Nat):Int):=(by simp);rw[e,HD.out,IntKind.wrap_u32];omega
   have HA2:Hid (part V p k (j+1) b=A+D):=hst;have hAD:A+D<4294967296:=by omega
   cases b with
   |false=>
    obtain rfl:j=t:=by have:=Ht.out;simpa using this
    clear hst hlt2 hk2 HB HD Ht e1;go_wp2_with fail;refine CB.out.mono ?_;rintro e w2 ⟨rfl,rfl⟩;go_wp2_with fail;go_roundw
    case rel=>exact⟨j+1,A+D,by omega,by go_num,by go_num,hAD,HA2,by first|trivial|rfl⟩
    simp[intOf];omega
   |true=>
    have et:(k:Int)-1-(j:Int)=(t:Int):=by have:=Ht.out;simp at this;omega
    clear hst hlt2 hk2 HB HD Ht e1;go_wp2_with fail;refine CB.out.mono ?_;rintro e w2 ⟨rfl,rfl⟩;go_wp2_with fail;go_roundw
    case rel=>exact⟨j+1,A+D,by omega,by go_num,by go_num,hAD,HA2,by first|trivial|rfl⟩
    simp[intOf];omega
 obtain rfl:j=k:=by omega
 have d1:decide ((j:Int)<(j:Int))=false:=Qh (by omega);go_wp2_with fail;go_ret;exact⟨by rw[<-HA.out];rfl,rfl⟩
set_option maxHeartbeats 16000000 in
theorem YhO (a:Option Addr) (n cap:Nat) (m:Nat->Int) (hn:n<=320) (h15:∀i,i<n->0<=m i/\m i<=15) (au:Option Addr) (capu:Nat) (F:Nat->Nat) (ab:Option Addr) (nb capb V:Nat) (hnb:nb<=1000000) (hV:V<2^nb) (p:Nat) (hp:p<=1000000) (w:World) (hr:IRow w a n m) (hu:URow w au n F) (hb:BRow w ab nb V) :
 Calls Tryz.prog 119 #[.slice a n cap,.slice au n capu,.slice ab nb capb,.int .i64 (p:Int)] w fun e w'=>
  ∃sym err taken:Nat,e=.returned (.tuple #[.int .i64 (sym:Int),.int .i64 (taken:Int),.int .i64 (err:Int)])/\NextOut F (lens m) (XR (lens m) n) (V/2^p) nb p sym err taken/\w=w':=by
 have Hr:=Qf hr;have Hu:=Qf hu;have Hb:=Qf hb;have HV:=Qf hV;obtain⟨L,HL⟩:=Qi (lens m);rw[HL.out]
 have HmL:Hid (∀j,j<n->m j=(L j:Int)/\L j<=15):=fun j hj=>by
  have:=h15 j hj;rw[<-HL.out];unfold lens;omega
 obtain⟨X,HX⟩:=Qi (V/2^p);rw[HX.out];clear hr hu hb hV h15;go_enter Tryz.func119,Tryz.ntmps119;go_wp2_with fail
 go_loopw [11] (fun n_ wr=>∃d:Nat,d<=15/\n_=.int .i64 ((d:Int)+1)/\Hid (∀m,1<=m->m<d+1->p+m<=nb/\∃σ,XR L n σ/\Ext F L (rev X m) m σ/\m<L σ)/\Hid (w=wr)) (fun n_ _=>17-(intOf n_).toNat)
 case atStart=>exact⟨0,by omega,rfl,(fun m h1 h2=>by omega),rfl⟩
 obtain⟨d,hd15,rfl,Hpre,HW⟩:=hrel;have HRw:Hid (IRow wr a n m):=by show IRow _ _ _ _;rw[<-HW.out];exact Hr.out
 have HUw:Hid (URow wr au n F):=by show URow _ _ _ _;rw[<-HW.out];exact Hu.out
 have HBw:Hid (BRow wr ab nb V):=by show BRow _ _ _ _;rw[<-HW.out];exact Hb.out
 obtain⟨D,HD⟩:=Qi (d+1)
 have hD:(d:Int)+1=(D:Int):=by have:=HD.out;omega
 have hD16:D<=16:=by have:=HD.out;omega
 have hD1:1<=D:=by have:=HD.out;omega
 rw[HD.out] at Hpre;rw[hD];clear hD hd15;by_cases hsh:nb<p+D
 . have d1:decide ((nb:Int)<(p:Int)+(D:Int))=true:=Qg (by omega)
   go_wp2_with fail
   go_ret3
   exact⟨0,6,D,rfl,⟨hD1,Hpre.out,.inl ⟨hsh,rfl,rfl⟩⟩,HW.out⟩
 have d1:decide ((nb:Int)<(p:Int)+(D:Int))=false:=Qh (by omega);have CN0:=K7 ab nb capb V (by omega) HV.out p D (by omega) (by omega) true wr HBw.out;obtain⟨f,Hf⟩:=Qi (rev X D)
 have ef:Ygl V p D true=f:=by
  rw[Ygk,Yak _ _ _ (Qa _),HX.out];exact Hf.out
 rw[ef] at CN0;have CN:=Qf CN0;clear CN0 ef;go_wp2_with fail;refine CN.out.mono ?_;rintro e w2 ⟨rfl,rfl⟩;clear CN;go_wp2_with fail
 go_loopw [13,32] (fun b_ i_ wr=>∃(j:Nat) (bg:Bool),j<=n/\i_=.int .i64 (j:Int)/\b_=.bool bg/\Hid (bg=true ↔ ∃s,s<j/\Ext F L f D s/\D<L s)/\Hid (∀s,s<j->L s=D->F s ≠ f)/\Hid (w=wr)) (fun _ i _=>n-(intOf i).toNat)
 case atStart=>exact⟨0,false,by omega,rfl,rfl,Qf (show(false=true ↔ ∃s,s<0/\Ext F L f D s/\D<L s) from⟨fun h=>(by cases h),fun ⟨s,h,_⟩=>(by omega)⟩),(fun s h=>by omega),HW⟩
 clear HRw HUw HBw HW;obtain⟨j,bg,hj,rfl,rfl,Hbg,Hno,HW⟩:=hrel;have HRw:Hid (IRow wr a n m):=by show IRow _ _ _ _;rw[<-HW.out];exact Hr.out
 have HUw:Hid (URow wr au n F):=by show URow _ _ _ _;rw[<-HW.out];exact Hu.out
 by_cases hlt:j<n
 . have d2:decide ((j:Int)<(n:Int))=true:=Qg (by omega)
   have hlI:(j:Int)<(n:Int):=by omega
   obtain⟨b1,o1,rfl,_,c0⟩:=HRw.out.get j hlt;obtain⟨b2,o2,rfl,_,c1⟩:=HUw.out.get j hlt;obtain⟨em,hl15⟩:=HmL.out j hlt;obtain⟨l,Hl⟩:=Qi (L j);obtain⟨c,Hc⟩:=Qi (F j);rw[em,Hl.out] at c0;rw[Hc.out] at c1;rw[Hl.out] at hl15;clear em;by_cases hlD:l<D
   . have d3:decide ((l:Int)<(D:Int))=true:=Qg (by omega)
     have Hbg2:Hid (bg=true ↔ ∃s,s<j+1/\Ext F L f D s/\D<L s):=by
      show _ ↔ _;rw[Hbg.out];constructor
      . rintro ⟨s,h1,h2⟩;exact⟨s,by omega,h2⟩
      rintro ⟨s,h1,h2,h3⟩;by_cases e:s=j
      . subst e;rw[Hl.out] at h3;omega
      exact⟨s,by omega,h2,h3⟩
     have Hno2:Hid (∀s,s<j+1->L s=D->F s ≠ f):=fun s h1 h2=>by
      by_cases e:s=j
      . subst e;rw[Hl.out] at h2;omega
      exact Hno.out s (by omega) h2
     go_wp2_with fail;go_roundw
     case rel=>exact⟨j+1,bg,by omega,by go_num,rfl,Hbg2,Hno2,HW⟩
     simp[intOf];omega
   have d3:decide ((l:Int)<(D:Int))=false:=Qh (by omega);obtain⟨q,Hq⟩:=Qi (l-D)
   have hq:(l:Int)-(D:Int)=(q:Int):=by have:=Hq.out;omega
   have mq:min q 32=q:=by have:=Hq.out;omega
   obtain⟨y,Hy⟩:=Qi (c/2^q);have hy:(c:Int)/2^q=(y:Int):=by rw[<-Hy.out];simp
   obtain⟨E,HE⟩:=Qi (((y:Int)==(f:Int)));have hE:=HE.out
   have hext:Ext F L f D j ↔ E=true:=by
    unfold Ext;rw[Hl.out,Hc.out,Hq.out,Hy.out,<-HE.out];simp;omega
   have Hext:=Qf hext;clear hext;by_cases hle:l=D
   . subst hle
     have f1:((l:Int)==(l:Int))=true:=by simp
     obtain rfl:q=0:=by have:=Hq.out;omega
     by_cases hcf:c=f
     . subst hcf
       go_wp2_with fail
       go_ret3
       exact⟨j,0,l,rfl,⟨hD1,Hpre.out,.inr (.inr ⟨by omega,⟨hlt,by rw[Hl.out];omega⟩,Hl.out,by rw[Hc.out];exact Hf.out.symm,rfl⟩)⟩,HW.out⟩
     have f2:((c:Int)==(f:Int))=false:=(by simp;omega);have hyc:y=c:=(by rw[<-Hy.out];simp);subst hyc;obtain rfl:E=false:=by rw[<-HE.out];exact f2
     have Hbg2:Hid (bg=true ↔ ∃s,s<j+1/\Ext F L f l s/\l<L s):=by
      show _ ↔ _;rw[Hbg.out];constructor
      . rintro ⟨s,h1,h2⟩;exact⟨s,by omega,h2⟩
      rintro ⟨s,h1,h2,h3⟩;by_cases e:s=j
      . subst e;rw[Hl.out] at h3;omega
      exact⟨s,by omega,h2,h3⟩
     have Hno2:Hid (∀s,s<j+1->L s=l->F s ≠ f):=fun s h1 h2=>by
      by_cases e:s=j
      . subst e;rw[Hc.out];exact hcf
      exact Hno.out s (by omega) h2
     cases bg with
     |true=>
      go_wp2_with fail;go_roundw
      case rel=>exact⟨j+1,true,by omega,by go_num,rfl,Hbg2,Hno2,HW⟩
      simp[intOf];omega
     |false=>
      go_wp2_with fail;go_roundw
      case rel=>exact⟨j+1,false,by omega,by go_num,rfl,Hbg2,Hno2,HW⟩
      simp[intOf];omega
   have f1:((l:Int)==(D:Int))=false:=by simp;omega
   have Hbg2:Hid ((bg||E)=true ↔ ∃s,s<j+1/\Ext F L f D s/\D<L s):=by
    show _ ↔ _;rw[Bool.or_eq_true,Hbg.out,<-Hext.out];constructor
    . rintro (⟨s,h1,h2⟩|h)
      . exact⟨s,by omega,h2⟩
      exact⟨j,by omega,h,by rw[Hl.out];omega⟩
    rintro ⟨s,h1,h2,h3⟩;by_cases e:s=j
    . subst e;exact .inr h2
    exact .inl ⟨s,by omega,h2,h3⟩
   have Hno2:Hid (∀s,s<j+1->L s=D->F s ≠ f):=fun s h1 h2=>by
    by_cases e:s=j
    . subst e;rw[Hl.out] at h2;exact absurd h2 hle
    exact Hno.out s (by omega) h2
   cases bg with
   |true=>
    go_wp2_with fail;go_roundw
    case rel=>exact⟨j+1,true,by omega,by go_num,rfl,Hbg2,Hno2,HW⟩
    simp[intOf];omega
   |false=>
    go_wp2_with fail;go_roundw
    case rel=>exact⟨j+1,E,by omega,by go_num,rfl,Hbg2,Hno2,HW⟩
    simp[intOf];omega
 obtain rfl:j=n:=by omega
 have d2:decide ((j:Int)<(j:Int))=false:=Qh (by omega)
 cases bg with
 |true=>
  obtain⟨s,h1,h2,h3⟩:=Hbg.out.1 rfl;have h4:=(HmL.out s h1).2
  have Hpre2:Hid (∀m,1<=m->m<D+1->p+m<=nb/\∃σ,XR L j σ/\Ext F L (rev X m) m σ/\m<L σ):=by
   intro m h5 h6;by_cases e:m=D
   . subst e
     rw[Hf.out];exact⟨by omega,s,⟨h1,by omega⟩,h2,h3⟩
   exact Hpre.out m h5 (by omega)
  have hDl:D<=15:=by omega
  clear h1 h2 h3 h4;go_wp2_with fail;go_roundw
  case rel=>exact⟨D,hDl,rfl,Hpre2,HW⟩
  simp[intOf];omega
 |false=>
  have Hnone:Hid (∀s,XR L j s->¬Ext F L (rev X D) D s):=by
   rintro s ⟨h1,h2⟩ h3;rw[Hf.out] at h3;by_cases e:D<L s
   . have:=Hbg.out.2 ⟨s,h1,h3,e⟩
     cases this
   have h4:=h3.1;have h5:L s=D:=by omega
   refine Hno.out s h1 h5 ?_;have h6:=h3.2;rw[h5,Nat.sub_self,Nat.pow_zero,Nat.div_one] at h6;exact h6
  go_wp2_with fail
  go_ret3
  exact⟨0,3,D,rfl,⟨hD1,Hpre.out,.inr (.inl ⟨by omega,Hnone.out,rfl,rfl⟩)⟩,HW.out⟩
def J3 (X k i:Nat):Value:=.bool (decide (i<k)&&X.testBit i)
theorem YdW (n:Nat) (hn:n<=1000000) (I:Int) (hI:I=(n:Int)) (w:World) :
 (Instr.makeSlice 86 (.int .i64 I) (.int .i64 I)).run Tryz.prog w=.ok (.slice (some ⟨w.heap.size,0,none⟩) n n) (w.alloc (.cells (Yg n fun _=>.bool false) 4)):=
 XC (t:=86) (e:=4) Tryz.underlying86 Yas rfl n I hI (by omega) (by omega) w
theorem Ymc (s:ByteArray) (k q m:Nat) (hq:k/8=q) (hm:k%8=m) (h:q<s.size):(num s).testBit k=(s[q]).toNat.testBit m:=by
 subst hq hm;rw[<-YbW s (k/8) h,Xw,show(256:Nat)=2^8 by decide,Nat.testBit_mod_two_pow,Nat.testBit_div_two_pow,decide_eq_true (show k%8<8 by omega),Bool.true_and]
 congr 1
 omega
theorem Yk5:∀c:Nat,c<256->∀m:Nat,m<8->decide (0<bits .and .u8 (c:Int) ((2^m:Nat):Int))=c.testBit m:=by decide +kernel
theorem YlR (s:ByteArray) (hs:s.size<=100000) (w:World) :
 Calls Tryz.prog 78 #[.string s] w fun e w'=>e=.returned (.slice (some ⟨w.heap.size,0,none⟩) (8*s.size) (8*s.size))/\BRow w' (some ⟨w.heap.size,0,none⟩) (8*s.size) (num s)/\Below w.heap.size w w':=by
 obtain⟨N,HN⟩:=Qi (8*s.size)
 have eN:8*(s.size:Int)=(N:Int):=by have:=HN.out;omega
 have hN:N<=800000:=by have:=HN.out;omega
 have hmk:=YdW N (by omega) (N:Int) rfl w;obtain⟨X,HX⟩:=Qi (num s);obtain⟨G,HG⟩:=Qi (w.heap.size);have hB0:=Blk.new w 4 (Yg N fun _=>.bool false);have hb0:=(Below.refl w.heap.size w).alloc (Qa _) (.cells (Yg N fun _=>.bool false) 4);rw[Ys N (fun _=>Value.bool false) (J3 X 0) (fun i hi=>by unfold J3;simp),HG.out] at hB0;rw[Ys N (fun _=>Value.bool false) (J3 X 0) (fun i hi=>by unfold J3;simp)] at hb0 hmk;have HB0:=Qf hB0;have Hb0:=Qf hb0;rw[HG.out] at hmk;rw[HN.out,HX.out];clear hB0 hb0;go_enter Tryz.func78,Tryz.ntmps78;go_wp2_with fail;obtain⟨w1,HW1⟩:=Qi (w.alloc (.cells (Yg N (J3 X 0)) 4));rw[HW1.out] at HB0 Hb0 ⊢;clear hmk HW1
 go_loopw [11] (fun i wr=>∃k:Nat,k<=N/\i=.int .i64 (k:Int)/\Hid (Blk wr G 4 (Yg N (J3 X k)))/\Hid (Below w.heap.size w wr)) (fun i _=>N-(intOf i).toNat)
 case atStart=>exact⟨0,by omega,rfl,HB0,Hb0⟩
 clear HB0 Hb0;obtain⟨k,hk,rfl,HB,Hb⟩:=hrel;by_cases hlt:k<N
 . have d1:decide ((k:Int)<(N:Int))=true:=Qg (by omega)
   obtain⟨q,Hq⟩:=Qi (k/8);obtain⟨m,Hm⟩:=Qi (k%8)
   have hql:q<s.size:=by have:=HN.out;have:=Hq.out;omega
   have hnb:=Ymc s k q m Hq.out Hm.out hql;rw[HX.out] at hnb;obtain⟨c,Hc⟩:=Qi ((s[q]).toNat);have hcl:c<256:=by rw[<-Hc.out];exact UInt8.toNat_lt _
   rw[Hc.out] at hnb
   have hm8:m<8:=by have:=Hm.out;omega
   have e1:(k:Int)/8=(q:Int):=by have:=Hq.out;omega
   have e2:(k:Int).tdiv 8=(q:Int):=by rw[Int.tdiv_eq_ediv_of_nonneg (by omega)];exact e1
   have e3:(k:Int)%8=(m:Int):=by have:=Hm.out;omega
   have e4:(k:Int).tmod 8=(m:Int):=by rw[Int.tmod_eq_emod_of_nonneg (by omega)];exact e3
   have hix:∀W,(Instr.index 9 (.string s) (.int .i64 (q:Int))).run Tryz.prog W=.ok (.int .u8 (c:Int)) W:=fun W=>by
    have e:((q:Int)).toNat=q:=(by omega);rw[run_index_string W 9 s .i64 (q:Int) Tryz.underlying9,dif_pos ⟨by omega,by omega⟩];simp only[e,Hc.out]
   have hfz:=HB.out.frozen k;obtain⟨B,HBt⟩:=Qi (X.testBit k);obtain⟨M,HM⟩:=Qi (2^m)
   have hM:(2:Int)^m%256=(M:Int):=by
    have h1:2^m<=2^7:=Nat.pow_le_pow_right (by decide) (by omega);have h2:(2:Nat)^7=128:=(by decide);have h3:((2:Int)^m)=((2^m:Nat):Int):=(by simp);rw[h3,HM.out];rw[HM.out] at h1;omega
   have hD:decide (0<bits .and .u8 (c:Int) (M:Int))=B:=by
    rw[<-HM.out,Yk5 c hcl m hm8,<-hnb,HBt.out]
   have hcell:=HB.out.cell k;rw[Yp _ _ _ hlt] at hcell
   have HB2:Hid (∀n,Blk ((wr.drewN n).setCell ⟨G,k,none⟩ (.bool B)) G 4 (Yg N (J3 X (k+1)))):=by
    intro n;have h:=(HB.out.drewN n).set_ k (.bool B);rw[YA] at h;rw[Ys N (J3 X (k+1)) (fun i=>if i=k then .bool B else J3 X k i)]
    . exact h
    intro i hi;unfold J3;by_cases e:i=k
    . subst e
      rw[if_pos rfl,HBt.out,decide_eq_true (by omega),Bool.true_and]
    rw[if_neg e];by_cases e2:i<k
    . rw[decide_eq_true e2,decide_eq_true (show i<k+1 by omega)]
    rw[decide_eq_false e2,decide_eq_false (show ¬i<k+1 by omega)]
   have Hb2:Hid (∀n,Below w.heap.size w ((wr.drewN n).setCell ⟨G,k,none⟩ (.bool B))):=fun n=>(Yh Hb.out n).setCell (by rw[HG.out];exact Qa _) _;clear hnb hcl;go_wp2_with fail
   go_region
   all_goals
    go_wp2_with fail;go_roundw
    case rel=>exact⟨k+1,by omega,by go_num,HB2.out 1,Hb2.out 1⟩
    simp[intOf];omega
 obtain rfl:k=N:=by omega
 have d1:decide ((k:Int)<(k:Int))=false:=Qh (by omega)
 have hR:BRow wr (some ⟨G,0,none⟩) k X:=by
  refine .inr ⟨G,0,rfl,HB.out.lt,fun i hi=>?_⟩;rw[HB.out.cell (0+i),Nat.zero_add,Yp _ _ _ hi];unfold J3 bval;rw[decide_eq_true hi,Bool.true_and]
 have HR:=Qf hR;clear hR;go_wp2_with fail;go_ret;exact⟨by rw[HG.out];rfl,by rw[HG.out];exact HR.out,Hb.out⟩
def SnC (a:Option Addr) (n cap p z most e:Nat):Array Value:=#[.slice a n cap,.int .i64 (p:Int),.int .i64 (z:Int),.int .i64 (most:Int),.int .i64 (e:Int)]
def SnV (a:Option Addr) (n cap p z most e:Nat):Value:=.agg (SnC a n cap p z most e)
theorem YbN {fn:Func} {p:Tmp} (h:fn.results=#[.cell p 149]) {tmps:Array Value} {w:World} {g:Nat} {a:Option Addr} {n cap q z most e:Nat}
 (hp:tmps.getD p undef=.pointer (some ⟨g,0,none⟩)) (hg:Blk w g 149 (SnC a n cap q z most e)):(results fn tmps).run Tryz.prog w=.ok (SnV a n cap q z most e) w:=
 results_cell_row h tmps w g 149 _ (0,0) _ hp hg Tryz.underlying149 rfl (by kernel_rfl)
theorem Y8 {fn:Func} {p u:Tmp} (h:fn.results=#[.cell p 149,.tmp u]) {tmps:Array Value} {w:World} {g:Nat} {a:Option Addr} {n cap q z most e:Nat}
 (hp:tmps.getD p undef=.pointer (some ⟨g,0,none⟩)) (hg:Blk w g 149 (SnC a n cap q z most e)):(results fn tmps).run Tryz.prog w=.ok (.tuple #[SnV a n cap q z most e,tmps.getD u undef]) w:=by
 rw[results_cell_tmp h tmps Tryz.prog w,hp];have h1:(asAddr (.pointer (some ⟨g,0,none⟩))).run Tryz.prog w=.ok ⟨g,0,none⟩ w:=rfl;rw[h1];show((loadVar _ _).run _ _).andThen _=_;rw[run_loadVar_row w g 149 _ (SnC a n cap q z most e) (0,0) _ hg Tryz.underlying149 rfl (by kernel_rfl)];rfl
theorem Uz (a:Option Addr) (n cap p z most e c:Nat) (is:Bool) (w:World) :
 Calls Tryz.prog 84 #[SnV a n cap p z most e,.bool is,.int .i64 (c:Int)] w fun r w'=>r=.returned (SnV a n cap p z most (if is then Yu e c else e))/\Below w.heap.size w w':=by
 have hb:∀(A B:Array Value),Below w.heap.size w ((w.alloc (.cells A 149)).alloc (.cells B 149)):=fun A B=>((Below.refl w.heap.size w).alloc (Qa _) _).alloc (by simp) _;have hB:∀(A B:Array Value),Blk ((w.alloc (.cells A 149)).alloc (.cells B 149)) (w.heap.size+1) 149 B:=fun A B=>heap_alloc2_new w _ _;have Hb:=Qf hb;have HB:=Qf hB;clear hb hB
 cases is with
 |false=>
  unfold SnV SnC;go_enter Tryz.func84,Tryz.ntmps84;go_wp2_with fail
  (try simp only[Exit.inBlock,Exit.then])
  refine bodyPost_ret (YbN rfl rfl (HB.out _ _)) rfl ?_;exact⟨rfl,Hb.out _ _⟩
 |true=>
  by_cases he:e=0
  . subst he
    unfold SnV SnC;go_enter Tryz.func84,Tryz.ntmps84;go_wp2_with fail
    (try simp only[Exit.inBlock,Exit.then])
    refine bodyPost_ret (YbN rfl rfl (HB.out _ _)) rfl ?_;exact⟨rfl,Hb.out _ _⟩
  have de:((e:Int)==0)=false:=by simp;omega
  have he2:(if true=true then Yu e c else e)=e:=by rw[if_pos rfl];unfold Yu;rw[if_neg he]
  rw[he2];clear he he2;unfold SnV SnC;go_enter Tryz.func84,Tryz.ntmps84;go_wp2_with fail
  (try simp only[Exit.inBlock,Exit.then])
  refine bodyPost_ret (YbN rfl rfl (HB.out _ _)) rfl ?_;exact⟨rfl,Hb.out _ _⟩
theorem LR.moved {β:Type} {s:ByteArray} {RES:Rs β} {p p' z z' e:Nat} {K K':Sg->Rs β} (h:LR s RES p z e K) (he:e ≠ 0):LR s RES p' z' e K':=by
 rcases h with⟨h0,_⟩|h
 . exact absurd h0 he
 exact .inr h
theorem YbR (a:Option Addr) (cap:Nat) (s:ByteArray) (hs:s.size<=100000) (p z most e k:Nat) (hk:k<=16) (hp:p<=1000000) {β:Type} (RES:Rs β) (f:Nat->Sg->Rs β) (hL:LR s RES p z e (fun σ=>Yc (Yy k σ) f))
 (w:World) (hb:BRow w a (8*s.size) (num s)) :
 Calls Tryz.prog 79 #[SnV a (8*s.size) cap p z most e,.int .i64 (k:Int)] w fun r w'=>∃p' v e':Nat,r=.returned (.tuple #[SnV a (8*s.size) cap p' z most e',.int .i64 (v:Int)])/\Hid (LR s RES p' z e' (f v))/\v<2^k/\p<=p'/\p'<=p+k/\((e' ≠ 0->v=0)/\(e'=0->e=0))/\Below w.heap.size w w':=by
 obtain⟨N,HN⟩:=Qi (8*s.size)
 have hNl:N<=800000:=by have:=HN.out;omega
 have HV:Hid (num s<2^N):=by
  show _<_;rw[<-HN.out];have:=Uj s.data.toList;rw[show s.data.toList.length=s.size by simp,Xw] at this;exact this
 rw[HN.out] at hb ⊢;have hbb:∀(A B:Array Value),Below w.heap.size w ((w.alloc (.cells A 149)).alloc (.cells B 149)):=fun A B=>((Below.refl w.heap.size w).alloc (Qa _) _).alloc (by simp) _;have hB:∀(A B:Array Value),Blk ((w.alloc (.cells A 149)).alloc (.cells B 149)) (w.heap.size+1) 149 B:=fun A B=>heap_alloc2_new w _ _;have Hb:=Qf hbb;have HB:=Qf hB;have HR:=Qf hb;have HL:=Qf hL;clear hbb hB hb hL;by_cases he:e=0
 . subst he
   by_cases hlt:N<p+k
   . have d1:decide ((N:Int)<(p:Int)+(k:Int))=true:=Qg (by omega)
     have HL2:Hid (LR s RES p z 6 (f 0)):=by
      have h:=LR.bits HL.out;have e1:Y5 s p k 0=6:=(by unfold Y5;rw[HN.out,if_pos hlt];rfl);rw[e1] at h;exact h.moved (by decide)
     clear hlt HL;unfold SnV SnC;go_enter Tryz.func79,Tryz.ntmps79;go_wp2_with fail
     (try simp only[Exit.inBlock,Exit.then])
     refine bodyPost_ret (Y8 rfl rfl (HB.out _ _)) rfl ?_;exact⟨p,0,6,rfl,HL2,Nat.two_pow_pos k,Qa _,by omega,⟨fun _=>rfl,fun _=>by first|rfl|trivial⟩,Hb.out _ _⟩
   have d1:decide ((N:Int)<(p:Int)+(k:Int))=false:=Qh (by omega);have hNk:p+k<=N:=by omega
   obtain⟨v,Hv⟩:=Qi (YI s p k)
   have HL2:Hid (LR s RES (p+k) z 0 (f v)):=by
    have h:=LR.bits HL.out;have e1:Y5 s p k 0=0:=(by unfold Y5;rw[HN.out,if_neg hlt]);rw[e1,Hv.out] at h;exact h
   have hvl:v<2^k:=by rw[<-Hv.out];exact Nat.mod_lt _ (Nat.two_pow_pos k)
   have hv2:v<65536:=Qb hvl (Qe (Nat.pow_le_pow_right (by decide) hk) (by decide))
   have CN:Hid (∀A B:Array Value,Calls Tryz.prog 102 #[.slice a N cap,.int .i64 (p:Int),.int .i64 (k:Int),.bool false] ((w.alloc (.cells A 149)).alloc (.cells B 149)) fun e w'=>e=.returned (.int .u32 (v:Int))/\((w.alloc (.cells A 149)).alloc (.cells B 149))=w'):=by
    refine Qf fun A B=>?_;have:=K7 a N cap (num s) (by omega) HV.out p k (by omega) (by omega) false _ (HR.out.below (Hb.out A B) (Qa _));rw[Kw,show num s/2^p%2^k=v from Hv.out] at this;exact this
   have hvw:IntKind.i64.wrap (v:Int)=(v:Int):=IntWalk.i64_in _ (by omega);clear hlt HL;unfold SnV SnC;go_enter Tryz.func79,Tryz.ntmps79;go_wp2_with fail;refine(CN.out _ _).mono ?_;rintro r w1 ⟨rfl,rfl⟩;go_wp2_with fail
   (try simp only[Exit.inBlock,Exit.then])
   refine bodyPost_ret (Y8 rfl rfl (HB.out _ _)) rfl ?_;exact⟨p+k,v,0,rfl,HL2,hvl,by omega,Qa _,⟨fun h=>absurd rfl h,fun _=>by first|rfl|trivial⟩,Hb.out _ _⟩
 have de:((e:Int)==0)=false:=by simp;omega
 have HL2:Hid (LR s RES p z e (f 0)):=HL.out.moved he;have he2:e ≠ 0:=he;clear HL he;unfold SnV SnC;go_enter Tryz.func79,Tryz.ntmps79;go_wp2_with fail
 (try simp only[Exit.inBlock,Exit.then])
 refine bodyPost_ret (Y8 rfl rfl (HB.out _ _)) rfl ?_;exact⟨p,0,e,rfl,HL2,Nat.two_pow_pos k,Qa _,by omega,⟨fun _=>rfl,fun h=>h⟩,Hb.out _ _⟩
theorem YbP (al:Option Addr) (c capl:Nat) (m:Nat->Int) (hc:c<=320) (h15:∀i,i<c->0<=m i/\m i<=15) (au:Option Addr) (capu:Nat)
 (a:Option Addr) (cap:Nat) (s:ByteArray) (hs:s.size<=100000) (p z most e:Nat) (hp:p<=900000) {β:Type} (RES:Rs β) (f:Nat->Sg->Rs β) (hL:LR s RES p z e (fun σ=>Yc (symM (lens m) c σ) f))
 (w:World) (hb:BRow w a (8*s.size) (num s)) (hl:IRow w al c m) (hu:URow w au c (YD (lens m) c)) :
 Calls Tryz.prog 107 #[SnV a (8*s.size) cap p z most e,.slice al c capl,.slice au c capu] w fun r w'=>∃p' v e':Nat,r=.returned (.tuple #[SnV a (8*s.size) cap p' z most e',.int .i64 (v:Int)])/\Hid (LR s RES p' z e' (f v))/\p<=p'/\(e'=0->p<p'/\p'<=8*s.size/\v<c)/\p'<=p+20/\(e' ≠ 0->v=0)/\Below w.heap.size w w':=by
 obtain⟨N,HN⟩:=Qi (8*s.size)
 have hNl:N<=800000:=by have:=HN.out;omega
 have HV:Hid (num s<2^N):=by
  show _<_;rw[<-HN.out];have:=Uj s.data.toList;rw[show s.data.toList.length=s.size by simp,Xw] at this;exact this
 rw[HN.out] at hb ⊢;have hbb:∀(A B:Array Value),Below w.heap.size w ((w.alloc (.cells A 149)).alloc (.cells B 149)):=fun A B=>((Below.refl w.heap.size w).alloc (Qa _) _).alloc (by simp) _;have hB:∀(A B:Array Value),Blk ((w.alloc (.cells A 149)).alloc (.cells B 149)) (w.heap.size+1) 149 B:=fun A B=>heap_alloc2_new w _ _;have Hb:=Qf hbb;have HB:=Qf hB;have HR:=Qf hb;have HI:=Qf hl;have HU:=Qf hu;have HL:=Qf hL;have H15:=Qf h15;clear hbb hB hb hL hl hu h15;by_cases he:e=0
 . subst he
   have CN:Hid (∀A B:Array Value,Calls Tryz.prog 119 #[.slice al c capl,.slice au c capu,.slice a N cap,.int .i64 (p:Int)] ((w.alloc (.cells A 149)).alloc (.cells B 149)) fun r w'=>
    ∃v t e',r=.returned (.tuple #[.int .i64 ((v:Nat):Int),.int .i64 ((t:Nat):Int),.int .i64 ((e':Nat):Int)])/\Hid (LR s RES (p+t) z e' (f v))/\(e'=0->p<p+t/\p+t<=N/\v<c)/\t<=16/\(e' ≠ 0->v=0)/\((w.alloc (.cells A 149)).alloc (.cells B 149))=w'):=by
    refine Qf fun A B=>?_
    have hur:URow ((w.alloc (.cells A 149)).alloc (.cells B 149)) au c (YD (lens m) c):=by
     rcases HU.out with h|⟨b,off,rfl,h2,h3⟩
     . exact .inl h
     exact .inr ⟨b,off,rfl,Qb h2 (Hb.out A B).size,fun i hi=>((Hb.out A B).cell (p:=⟨b,off+i,none⟩) h2).trans (h3 i hi)⟩
    refine(YhO al c capl m hc H15.out au capu (YD (lens m) c) a N cap (num s) (by omega) HV.out p (by omega) _ (HI.out.below (Hb.out A B)) hur (HR.out.below (Hb.out A B) (Qa _))).mono ?_;rintro r w1 ⟨sym,err,t,rfl,hn,rfl⟩
    have hL15:∀i,i<c->lens m i<=15:=fun i hi=>by have:=(H15.out i hi).2;unfold lens;omega
    have ht:t<=16:=by
     obtain⟨h1,h2,_⟩:=hn;by_cases h:t<=1
     . omega
     obtain⟨_,q,h3,_,h4⟩:=h2 (t-1) (by omega) (by omega);have:=hL15 q h3.1;omega
    have hnp:p<=N/\Yc (symM (lens m) c (sg s p z)) f=RES:=by
     have h:=HL.out.ok;rw[HN.out] at h;exact h
    have hr:=hn.rest hnp.1;have hsg:sg s p z=⟨num s/2^p,N-p,z⟩:=(by unfold sg;rw[HN.out]);refine⟨sym,t,err,rfl,?_,?_,ht,?_,rfl⟩
    . show LR _ _ _ _ _ _
      by_cases h0:err=0
      . subst h0
        have hok:=Yhx hL15 (σ:=sg s p z) (by rw[hsg];exact hr)
        have hle:p+t<=N:=by
         obtain⟨_,_,⟨_,h,_⟩|⟨_,_,h,_⟩|⟨h,_⟩⟩:=hn
         . cases h
         . cases h
         exact h
        refine .inl ⟨rfl,by rw[HN.out];exact hle,?_⟩;have h2:=hnp.2;rw[hok,Yj] at h2;rw[<-h2]
        congr 1
        unfold sg;rw[Nat.div_div_eq_div_mul,<-Nat.pow_add,HN.out];show(⟨_,N-(p+t),z⟩:Sg)=⟨_,N-p-t,z⟩;rw[Nat.sub_sub]
      have herr:=YfL hL15 (σ:=sg s p z) h0 (by rw[hsg];exact hr);refine .inr ⟨h0,?_⟩;rw[<-hnp.2,herr];rfl
    . intro h0
      subst h0;have hn1:=hn.1;obtain⟨_,_,⟨_,h,_⟩|⟨_,_,h,_⟩|⟨h,h2,_⟩⟩:=hn
      . cases h
      . cases h
      exact⟨by have:=hn1;omega,h,h2.1⟩
    intro h0;obtain⟨_,_,⟨_,_,h⟩|⟨_,_,_,h⟩|⟨_,_,_,_,h⟩⟩:=hn
    . exact h
    . exact h
    exact absurd h h0
   clear HL;unfold SnV SnC;go_enter Tryz.func107,Tryz.ntmps107;go_wp2_with fail;refine(CN.out _ _).mono ?_;rintro r w1 ⟨v,t,e',rfl,HL2,hz,ht,hv,rfl⟩;have Hz:=Qf hz;have Hv:=Qf hv;clear hz hv CN;go_wp2_with fail
   (try simp only[Exit.inBlock,Exit.then])
   refine bodyPost_ret (Y8 rfl rfl (HB.out _ _)) rfl ?_;exact⟨p+t,v,e',rfl,HL2,by omega,Hz.out,by omega,Hv.out,Hb.out _ _⟩
 have de:((e:Int)==0)=false:=by simp;omega
 have HL2:Hid (LR s RES p z e (f 0)):=HL.out.moved he;have he2:e ≠ 0:=he;clear HL he;unfold SnV SnC;go_enter Tryz.func107,Tryz.ntmps107;go_wp2_with fail
 (try simp only[Exit.inBlock,Exit.then])
 refine bodyPost_ret (Y8 rfl rfl (HB.out _ _)) rfl ?_;exact⟨p,0,e,rfl,HL2,Qa _,fun h=>absurd h he2,by omega,fun _=>rfl,Hb.out _ _⟩
def pc (x k:Nat):Bool->Nat
 |false=>x%2^k
 |true=>rev x k
theorem YjO (V c i:Nat) (hV:V<2^c) (h:c<=i):V.testBit i=false:=
 Nat.testBit_lt_two_pow (Qb hV (Nat.pow_le_pow_right (by decide) h))
theorem OwnV.lt {w:World} {base n V:Nat} {v:Value} (h:OwnV w base n V v):∃g cap,v=.slice (some ⟨g,0,none⟩) n cap/\base<=g/\g<w.heap.size/\BRow w (some ⟨g,0,none⟩) n V:=by
 obtain⟨g,cap,rfl,h1⟩:=h;have:=World.ownsRow.lt h1 g (by simp[Value.ownBlock]);exact⟨g,cap,rfl,this.1,this.2,OwnV.row h1⟩
theorem Ykj {w:World} {base c U:Nat} {v:Value} (h:w.ownsRow base 4 1 v c (X7 c U)) (hne:v ≠ .slice none 0 0):OwnV w base c U v:=by
 rcases h.2 with⟨rfl,_⟩|⟨g,cap,cur,rfl,_⟩
 . exact absurd rfl hne
 exact⟨g,cap,rfl,h⟩
set_option maxHeartbeats 4000000 in
theorem Yha (a:Option Addr) (cap c V:Nat) (hc:c<=100000) (hV:V<2^c) (w:World) (hr:BRow w a c V) (hnil:a=none->c=0/\cap=0) :
 Calls Tryz.prog 117 #[.slice a c cap] w fun e w'=>∃v,e=.returned v/\OwnV w' w.heap.size ((c+7)/8*8) V v/\Below w.heap.size w w':=by
 have HV:=Qf hV;have hb0:=(Below.refl w.heap.size w).alloc (Qa _) (.cells #[] 4);have ho0:=World.ownsRow_made (base:=w.heap.size) (e:=4) (size:=1) w #[] 0 (Qa _) (Nat.zero_le _) rfl;have hrr:BRow (w.alloc (.cells #[] 4)) a c V:=hr.below hb0 (Qa _);have hbs:=hb0.size;obtain⟨d,Hd⟩:=Qi ((c+7)/8*8);rw[Hd.out];clear hV hr;go_enter Tryz.func117,Tryz.ntmps117
 go_wp2_with (first
  |(at_builtin;go_must (refine UB rfl (.tmp 4) (.tmp 5) rfl w.heap.size _ 0 V ho0 rfl a c cap V rfl hrr hnil ?_ hbs ?_;omega;intro v' w1 hown1 hg1 hne))
  |fail)
 have hown2:w1.ownsRow w.heap.size 4 1 v' c (X7 c V):=by simpa [X7] using hown1
 have HO1:=Qf (Ykj hown2 (hne.resolve_left (by simp)));have HB1:=Qf (hb0.trans (Yb ho0 hg1 hbs));clear hown1 hown2 hne hg1 hb0 ho0 hrr hbs hnil
 go_loopw [3] (fun vo wr=>∃m cap g:Nat,c<=m/\m<=d/\vo=.slice (some ⟨g,0,none⟩) m cap/\Hid (OwnV wr w.heap.size m V vo)/\Hid (Below w.heap.size w wr)) (fun vo _=>100008-(match vo with|.slice _ m _=>m|_=>0))
 case atStart=>
  obtain⟨g,cap1,e,_⟩:=HO1.out;exact⟨c,cap1,g,Qa _,by have:=Hd.out;omega,e,HO1,HB1⟩
 clear HO1 HB1;obtain⟨m,cap1,g,hcm,hmd,rfl,HO,HB⟩:=hrel
 have hdl:d<=100007:=by have:=Hd.out;omega
 obtain⟨z,Hz⟩:=Qi (m%8)
 have hz1:(m:Int)%8=(z:Int):=by have:=Hz.out;omega
 have hz2:(m:Int).tmod 8=(z:Int):=by rw[Int.tmod_eq_emod_of_nonneg (by omega)];exact hz1
 by_cases h0:0<z
 . have d1:decide (0<(z:Int))=true:=Qg (by omega)
   have hmd2:m+1<=d:=by have:=Hd.out;have:=Hz.out;omega
   have htest:Hid (V.testBit m=false):=YjO V c m HV.out hcm;have hos:=HO.out;have hbsw:w.heap.size<=wr.heap.size:=HB.out.size
   go_wp2_with (first
    |(at_builtin;go_must (refine UC wr rfl (.tmp 11) (.tmp 12) rfl w.heap.size _ m V false hos htest.out rfl rfl rfl ?_ hbsw ?_;omega;intro v2 w2 hown2 hb2))
    |fail)
   obtain⟨g2,cap2,rfl,_⟩:=hown2;rename_i hown3;have HO2:Hid (OwnV w2 w.heap.size (m+1) V (.slice (some ⟨g2,0,none⟩) (m+1) cap2)):=⟨g2,cap2,rfl,hown3⟩;have HB2:=Qf (HB.out.trans hb2);clear hos hown3 hb2 HO HB;go_wp2_with fail;go_roundw
   case rel=>exact⟨m+1,cap2,g2,by omega,hmd2,rfl,HO2,HB2⟩
   simp;omega
 obtain rfl:z=0:=by omega
 have hm:m=d:=by have:=Hd.out;have:=Hz.out;omega
 subst hm;go_wp2_with fail;go_ret;exact⟨_,rfl,HO.out,HB.out⟩
theorem YkZ (V j Y:Nat) (hY:V/2^(8*j)%2^8=Y):(⟨(YB V j).toArray⟩:ByteArray)++⟨#[UInt8.ofNat Y]⟩=⟨(YB V (j+1)).toArray⟩:=by
 rw[show(⟨#[UInt8.ofNat Y]⟩:ByteArray)=⟨([UInt8.ofNat Y]).toArray⟩ from rfl,YeY,KA,Xw,<-hY]
set_option maxHeartbeats 4000000 in
theorem YcE (a:Option Addr) (cap c V:Nat) (hc:c<=100000) (hV:V<2^c) (w:World) (hr:BRow w a c V) (hnil:a=none->c=0/\cap=0) :
 Calls Tryz.prog 103 #[.slice a c cap] w fun e w'=>e=.returned (.string ⟨(YB V ((c+7)/8)).toArray⟩)/\Below w.heap.size w w':=by
 have CW:=Qf (Yha a cap c V hc hV w hr hnil);obtain⟨q,Hq⟩:=Qi ((c+7)/8);have HV:Hid (V<2^(8*q)):=Qb hV (Nat.pow_le_pow_right (by decide) (by have:=Hq.out;omega))
 have hql:q<=12501:=by have:=Hq.out;omega
 rw[Hq.out] at CW ⊢;rw[Nat.mul_comm q 8] at CW;clear hV hr hc hnil;go_enter Tryz.func103,Tryz.ntmps103;go_wp2_with fail;refine CW.out.mono ?_;rintro e w1 ⟨v,rfl,hO1,hB1⟩;obtain⟨g,cap1,rfl,_,hgl,hrow⟩:=hO1.lt;have HR1:=Qf hrow;have HB1:=Qf hB1;obtain⟨n,Hn⟩:=Qi (8*q)
 have hnl:n<=100008:=by have:=Hn.out;omega
 rw[Hn.out] at HR1 HV ⊢;clear hO1 hB1 hrow CW;go_wp2_with fail
 go_loopw [3,5] (fun t_ i_ wr=>∃j i:Nat,∃t:ByteArray,j<=q/\Hid (i=8*j)/\i_=.int .i64 (i:Int)/\t_=.string t/\Hid (t.size=j)/\Hid (t=⟨(YB V j).toArray⟩)/\Hid (BRow wr (some ⟨g,0,none⟩) n V)/\Hid (Below w.heap.size w wr)) (fun _ i _=>n-(intOf i).toNat)
 case atStart=>exact⟨0,0,_,by omega,rfl,rfl,rfl,rfl,rfl,HR1,HB1⟩
 clear HR1 HB1;obtain⟨j,i,t,hj,Hi,rfl,rfl,Hts,HT,HR,HB⟩:=hrel;by_cases hlt:i<n
 . have d1:decide ((i:Int)<(n:Int))=true:=Qg (by omega)
   have hjq:j+1<=q:=by have:=Hn.out;have:=Hi.out;omega
   have CN:=Qf (K7 (some ⟨g,0,none⟩) n cap1 V (by omega) HV.out i 8 (by omega) (by decide) false wr HR.out);obtain⟨Y,HY⟩:=Qi (Ygl V i 8 false);have hYl:Y<256:=by rw[<-HY.out,Kw];exact Nat.mod_lt _ (by decide)
   rw[HY.out] at CN;have hw8:IntKind.u8.wrap (Y:Int)=(Y:Int):=by rw[IntKind.wrap_u8];omega
   have hs1:=X2 wr (Y:Int);rw[Int.toNat_natCast] at hs1
   have HT2:Hid (t++⟨#[UInt8.ofNat Y]⟩=⟨(YB V (j+1)).toArray⟩):=by
    show _=_;rw[HT.out];exact YkZ V j Y (by rw[<-HY.out,Kw,Hi.out])
   have hbb:=(Below.refl wr.heap.size wr).alloc (Qa _) (.cells #[.int .u8 (Y:Int)] 5);have HR2:=Qf (HR.out.below hbb (Qa _));have HB2:=Qf (HB.out.trans (hbb.mono HB.out.size))
   have hov:¬9223372036854775807<t.size+1:=by have:=Hts.out;omega
   have hts2:Hid ((t++(⟨#[UInt8.ofNat Y]⟩:ByteArray)).size=j+1):=by
    show _=_;rw[ByteArray.size_append,Hts.out];rfl
   obtain⟨t2,Ht2⟩:=Qi (t++(⟨#[UInt8.ofNat Y]⟩:ByteArray));rw[Ht2.out] at HT2 hts2;have ht2:=Ht2.out;clear hbb HR HB;go_wp2_with fail;refine CN.out.mono ?_;rintro e w2 ⟨rfl,rfl⟩;clear CN;go_wp2_with fail;go_roundw
   case rel=>exact⟨j+1,i+8,t2,hjq,(by show _=_;have:=Hi.out;omega),by go_num,by rw[<-ht2],hts2,HT2,HR2,HB2⟩
   simp[intOf];omega
 have hjq:j=q:=by have:=Hn.out;have:=Hi.out;omega
 subst hjq;clear Hi;have d1:decide ((i:Int)<(n:Int))=false:=Qh (by omega);go_wp2_with fail;go_ret;exact⟨by rw[<-HT.out];rfl,HB.out⟩
theorem Kv {w:World} {base e size g n cap:Nat} {cur:Array Value} {xs:List Value} (h:Blk w g e cur) (hb:base<=g) (hn:n<=cap) (hm:cap<=maxLen) (hs:cur.size=cap*size) (hx:cur.toList.take (n*size)=xs):w.ownsRow base e size (.slice (some ⟨g,0,none⟩) n cap) n xs:=by
 refine⟨?_,.inr ⟨g,cap,cur,rfl,hb,h,hn,hm,hs,hx⟩⟩;rw[<-hx,List.length_take];have h1:cur.toList.length=cap*size:=by rw[Array.length_toList,hs]
 have h2:=Nat.mul_le_mul_right size hn;omega
theorem JX {w:World} {base n:Nat} {m:Nat->Int} {v:Value} (h:w.ownsRow base 3 1 v n (Yt n m)):∃a cap,v=.slice a n cap/\IRow w a n m/\∀b off sp,a=some ⟨b,off,sp⟩->base<=b/\b<w.heap.size:=by
 have hlt:=World.ownsRow.lt h;have h':=h;rcases h.2 with⟨rfl,h0⟩|⟨g,cap,cur,rfl,_⟩
 . exact⟨none,0,by rw[h0],.inl h0,fun b off sp e=>by cases e⟩
 refine⟨some ⟨g,0,none⟩,cap,rfl,IRow.ofOwn h',fun b off sp e=>?_⟩;injection e with e;injection e with e1;rw[<-e1];exact hlt g rfl
def lenV:Value->Nat
 |.slice _ n _=>n
 |_=>0
theorem IRow.grown {w w':World} {a:Option Addr} {n:Nat} {m:Nat->Int} {row:Option Nat} (h:IRow w a n m) (hg:w.grownBy w' row) (hn:∀b off sp,a=some ⟨b,off,sp⟩->some b ≠ row):IRow w' a n m:=by
 rcases h with h|⟨b,off,rfl,h2,h3⟩
 . exact .inl h
 have hb:=hg.block b h2 (hn b off none rfl);exact .inr ⟨b,off,rfl,Qb h2 hg.size,fun i hi=>(World.cell?_of_block hb).trans (h3 i hi)⟩
set_option maxHeartbeats 8000000 in
theorem Yf7 (w:World):Calls Tryz.prog 81 #[] w fun e w'=>∃a1 c1 a2 c2,e=.returned (.tuple #[.slice a1 288 c1,.slice a2 32 c2])/\IRow w' a1 288 fixL/\IRow w' a2 32 (fun _=>5)/\Below w.heap.size w w':=by
 have hr0:=World.ownsRow_made (base:=w.heap.size) (e:=3) (size:=1) w #[] 0 (Qa _) (Nat.zero_le _) rfl;have hb0:=((Below.refl w.heap.size w).alloc (Qa _) (.cells #[] 3)).alloc (by simp) (.cells #[] 3);have hd0:=Blk.new (w.alloc (.cells #[] 3)) 3 #[];have hg0:(w.alloc (.cells #[] 3)).grownBy ((w.alloc (.cells #[] 3)).alloc (.cells #[] 3)) none:=World.grownBy_alloc _ _ none
 have HO0:Hid (((w.alloc (.cells #[] 3)).alloc (.cells #[] 3)).ownsRow w.heap.size 3 1 (.slice (some ⟨w.heap.size,0,none⟩) 0 0) 0 (Yt 0 fixL)):=
  Kv (cur:=#[]) ((Blk.new w 3 #[]).alloc _) (Qa _) (Qa _) (Nat.zero_le _) rfl rfl
 have HB0:=Qf hb0;have HD0:=Qf hd0;have hgs:(w.alloc (.cells #[] 3)).heap.size=w.heap.size+1:=by simp
 rw[hgs] at HD0
 have HN0:Hid ((Value.slice (some ⟨w.heap.size,0,none⟩) 0 0).ownBlock ≠ some (w.heap.size+1)):=fun e=>by
  injection e with e;exact absurd (show w.heap.size=w.heap.size+1 from e) (by omega)
 obtain⟨G,HG⟩:=Qi (w.heap.size+1);rw[HG.out] at HD0 HN0;clear hr0 hb0 hd0 hg0;go_enter Tryz.func81,Tryz.ntmps81;go_wp2_with fail;obtain⟨w1,HW1⟩:=Qi ((w.alloc (.cells #[] 3)).alloc (.cells #[] 3));rw[HW1.out] at HO0 HB0 HD0 ⊢
 try rw[hgs]
 rw[HG.out];clear HW1 hgs
 go_loopw [2,4] (fun v_ i_ wr=>∃i:Nat,i<=288/\i_=.int .i64 (i:Int)/\Hid (wr.ownsRow w.heap.size 3 1 v_ i (Yt i fixL))/\Hid (Blk wr G 3 #[])/\Hid (v_.ownBlock ≠ some G)/\Hid (Below w.heap.size w wr)) (fun _ i _=>288-(intOf i).toNat)
 case atStart=>exact⟨0,by omega,rfl,HO0,HD0,HN0,HB0⟩
 clear HO0 HD0 HN0 HB0;obtain⟨i,hi,rfl,HO,HD,HN,HB⟩:=hrel;by_cases hlt:i<288
 . have d1:decide ((i:Int)<288)=true:=Qg (by omega)
   have hos:=HO.out;have hbsw:w.heap.size<=wr.heap.size:=HB.out.size
   rcases show i<144\/(144<=i/\i<256)\/(256<=i/\i<280)\/280<=i by omega with h|⟨h,h'⟩|⟨h,h'⟩|h
   . have hx:fixL i=8:=by unfold fixL;rw[if_pos h]
     have d2:decide (144<=(i:Int))=false:=Qh (by omega);have d3:decide ((i:Int)<256)=true:=Qg (by omega);have d4:decide (256<=(i:Int))=false:=Qh (by omega);have d5:decide ((i:Int)<280)=true:=Qg (by omega);have hsucc:=XN i fixL;rw[hx] at hsucc;have Hsucc:=Qf hsucc;clear hsucc hx
     go_wp2_with (first
      |(at_builtin;go_must (refine Yd wr rfl (.tmp 24) (.tmp 26) rfl Tryz.underlying113 Y9 rfl (by decide) w.heap.size _ i (Yt i fixL) [.int .i64 8] hos rfl ?_ rfl rfl rfl ?_ ?_ hbsw ?_;(intro y hy;simp at hy;subst hy;rfl);(unfold maxLen;omega);omega;intro v7 w7 hown7 hg7 hn7;have HO7:Hid (w7.ownsRow w.heap.size 3 1 v7 (i+1) (Yt (i+1) fixL)):=(by show World.ownsRow _ _ _ _ _ _ _;rw[Hsucc.out];exact hown7);have HB7:=Qf (HB.out.trans (Yb hos hg7 hbsw));have HD7:=Qf (HD.out.grown hg7 (fun e=>HN.out e.symm));have HN7:Hid (v7.ownBlock ≠ some G):=Qf (hn7 G HD.out.lt HN.out);clear hown7 hg7 hn7))
      |fail)
     go_roundw
     case rel=>exact⟨i+1,by omega,by go_num,HO7,HD7,HN7,HB7⟩
     simp[intOf];omega
   . have hx:fixL i=9:=by unfold fixL;rw[if_neg (by omega),if_pos h']
     have d2:decide (144<=(i:Int))=true:=Qg (by omega);have d3:decide ((i:Int)<256)=true:=Qg (by omega);have d4:decide (256<=(i:Int))=false:=Qh (by omega);have d5:decide ((i:Int)<280)=true:=Qg (by omega);have hsucc:=XN i fixL;rw[hx] at hsucc;have Hsucc:=Qf hsucc;clear hsucc hx
     go_wp2_with (first
      |(at_builtin;go_must (refine Yd wr rfl (.tmp 24) (.tmp 26) rfl Tryz.underlying113 Y9 rfl (by decide) w.heap.size _ i (Yt i fixL) [.int .i64 9] hos rfl ?_ rfl rfl rfl ?_ ?_ hbsw ?_;(intro y hy;simp at hy;subst hy;rfl);(unfold maxLen;omega);omega;intro v7 w7 hown7 hg7 hn7;have HO7:Hid (w7.ownsRow w.heap.size 3 1 v7 (i+1) (Yt (i+1) fixL)):=(by show World.ownsRow _ _ _ _ _ _ _;rw[Hsucc.out];exact hown7);have HB7:=Qf (HB.out.trans (Yb hos hg7 hbsw));have HD7:=Qf (HD.out.grown hg7 (fun e=>HN.out e.symm));have HN7:Hid (v7.ownBlock ≠ some G):=Qf (hn7 G HD.out.lt HN.out);clear hown7 hg7 hn7))
      |fail)
     go_roundw
     case rel=>exact⟨i+1,by omega,by go_num,HO7,HD7,HN7,HB7⟩
     simp[intOf];omega
   . have hx:fixL i=7:=by unfold fixL;rw[if_neg (by omega),if_neg (by omega),if_pos h']
     have d2:decide (144<=(i:Int))=true:=Qg (by omega);have d3:decide ((i:Int)<256)=false:=Qh (by omega);have d4:decide (256<=(i:Int))=true:=Qg (by omega);have d5:decide ((i:Int)<280)=true:=Qg (by omega);have hsucc:=XN i fixL;rw[hx] at hsucc;have Hsucc:=Qf hsucc;clear hsucc hx
     go_wp2_with (first
      |(at_builtin;go_must (refine Yd wr rfl (.tmp 24) (.tmp 26) rfl Tryz.underlying113 Y9 rfl (by decide) w.heap.size _ i (Yt i fixL) [.int .i64 7] hos rfl ?_ rfl rfl rfl ?_ ?_ hbsw ?_;(intro y hy;simp at hy;subst hy;rfl);(unfold maxLen;omega);omega;intro v7 w7 hown7 hg7 hn7;have HO7:Hid (w7.ownsRow w.heap.size 3 1 v7 (i+1) (Yt (i+1) fixL)):=(by show World.ownsRow _ _ _ _ _ _ _;rw[Hsucc.out];exact hown7);have HB7:=Qf (HB.out.trans (Yb hos hg7 hbsw));have HD7:=Qf (HD.out.grown hg7 (fun e=>HN.out e.symm));have HN7:Hid (v7.ownBlock ≠ some G):=Qf (hn7 G HD.out.lt HN.out);clear hown7 hg7 hn7))
      |fail)
     go_roundw
     case rel=>exact⟨i+1,by omega,by go_num,HO7,HD7,HN7,HB7⟩
     simp[intOf];omega
   have hx:fixL i=8:=by unfold fixL;rw[if_neg (by omega),if_neg (by omega),if_neg (by omega)]
   have d2:decide (144<=(i:Int))=true:=Qg (by omega);have d3:decide ((i:Int)<256)=false:=Qh (by omega);have d4:decide (256<=(i:Int))=true:=Qg (by omega);have d5:decide ((i:Int)<280)=false:=Qh (by omega);have hsucc:=XN i fixL;rw[hx] at hsucc;have Hsucc:=Qf hsucc;clear hsucc hx
   go_wp2_with (first
    |(at_builtin;go_must (refine Yd wr rfl (.tmp 24) (.tmp 26) rfl Tryz.underlying113 Y9 rfl (by decide) w.heap.size _ i (Yt i fixL) [.int .i64 8] hos rfl ?_ rfl rfl rfl ?_ ?_ hbsw ?_;(intro y hy;simp at hy;subst hy;rfl);(unfold maxLen;omega);omega;intro v7 w7 hown7 hg7 hn7;have HO7:Hid (w7.ownsRow w.heap.size 3 1 v7 (i+1) (Yt (i+1) fixL)):=(by show World.ownsRow _ _ _ _ _ _ _;rw[Hsucc.out];exact hown7);have HB7:=Qf (HB.out.trans (Yb hos hg7 hbsw));have HD7:=Qf (HD.out.grown hg7 (fun e=>HN.out e.symm));have HN7:Hid (v7.ownBlock ≠ some G):=Qf (hn7 G HD.out.lt HN.out);clear hown7 hg7 hn7))
    |fail)
   go_roundw
   case rel=>exact⟨i+1,by omega,by go_num,HO7,HD7,HN7,HB7⟩
   simp[intOf];omega
 have h288:i=288:=by omega
 have d1:decide ((i:Int)<288)=false:=Qh (by omega);obtain⟨a1,c1,rfl,hI1,hA1⟩:=JX HO.out;rw[h288] at hI1;have H288:=Qf h288;clear h288 hlt;have HI1:=Qf hI1;have HA1:=Qf hA1
 have hGw:w.heap.size<=G:=by have:=HG.out;omega
 have HO0:Hid (wr.ownsRow w.heap.size 3 1 (.slice (some ⟨G,0,none⟩) 0 0) 0 (Yt 0 fun _=>5)):=
  Kv (cur:=#[]) HD.out hGw (Qa _) (Nat.zero_le _) rfl rfl
 have HN1:Hid (∀b off sp,a1=some ⟨b,off,sp⟩->(Value.slice (some ⟨G,0,none⟩) 0 0).ownBlock ≠ some b):=fun b off sp e e2=>by
  injection e2 with e2;subst e;exact HN.out (congrArg some e2.symm)
 clear hI1 hA1 HO HD HN;go_wp2_with fail
 go_loopw [3] (fun v_ wx=>∃(i:Nat) (a:Option Addr) (cap:Nat),i<=32/\v_=.slice a i cap/\Hid (wx.ownsRow w.heap.size 3 1 (.slice a i cap) i (Yt i fun _=>5))/\Hid (IRow wx a1 288 fixL)/\Hid (∀b off sp,a1=some ⟨b,off,sp⟩->b<wx.heap.size/\(Value.slice a i cap).ownBlock ≠ some b)/\Hid (Below w.heap.size w wx)) (fun v_ _=>32-lenV v_)
 case atStart=>exact⟨0,_,_,by omega,rfl,HO0,HI1,(fun b off sp e=>⟨(HA1.out b off sp e).2,HN1.out b off sp e⟩),HB⟩
 clear HO0 HI1 HA1 HN1 HB;obtain⟨j,a,cap,hj,rfl,HO,HI,HF,HB⟩:=hrel;by_cases hlt2:j<32
 . have d2:decide ((j:Int)<32)=true:=Qg (by omega)
   have hos:=HO.out;have hbsw:w.heap.size<=wr.heap.size:=HB.out.size;have Hsucc:=Qf (XN j fun _=>(5:Int))
   go_wp2_with (first
    |(at_builtin;go_must (refine Yd wr rfl (.tmp 31) (.tmp 32) rfl Tryz.underlying113 Y9 rfl (by decide) w.heap.size _ j (Yt j fun _=>5) [.int .i64 5] hos rfl ?_ rfl rfl rfl ?_ ?_ hbsw ?_;(intro y hy;simp at hy;subst hy;rfl);(unfold maxLen;omega);omega;intro v7 w7 hown7 hg7 hn7;have HO7:Hid (w7.ownsRow w.heap.size 3 1 v7 (j+1) (Yt (j+1) fun _=>5)):=(by show World.ownsRow _ _ _ _ _ _ _;rw[Hsucc.out];exact hown7);have HB7:=Qf (HB.out.trans (Yb hos hg7 hbsw));have HI7:Hid (IRow w7 a1 288 fixL):=Qf (HI.out.grown hg7 fun b off sp e e2=>(HF.out b off sp e).2 e2.symm);have HF7:Hid (∀b off sp,a1=some ⟨b,off,sp⟩->b<w7.heap.size/\v7.ownBlock ≠ some b):=Qf (fun b off sp e=>⟨Qb (HF.out b off sp e).1 hg7.size,hn7 b (HF.out b off sp e).1 (HF.out b off sp e).2⟩);clear hown7 hg7 hn7))
    |fail)
   go_roundw
   case rel=>
    obtain⟨a7,c7,rfl,_,_⟩:=JX HO7.out;exact⟨j+1,a7,c7,by omega,rfl,HO7,HI7,HF7,HB7⟩
   obtain⟨a7,c7,rfl,_,_⟩:=JX HO7.out;show 32-(j+1)<32-j;omega
 obtain rfl:j=32:=by omega
 obtain⟨a7,c7,h7,hI7,_⟩:=JX HO.out;injection h7 with h7a h7b h7c;subst h7a h7c;have HI7:=Qf hI7;clear hI7;go_wp2_with fail;go_ret2;refine⟨a1,c1,a,⟨cap,?_⟩,HI.out,HI7.out,HB.out⟩;rw[H288.out];rfl
def szL:List Nat:=[3,4,5,6,7,8,9,10,11,13,15,17,19,23,27,31,35,43,51,59,67,83,99,115,131,163,195,227,258]
def szB:List Nat:=[0,0,0,0,0,0,0,0,1,1,1,1,2,2,2,2,3,3,3,3,4,4,4,4,5,5,5,5,0]
def farL:List Nat:=[1,2,3,4,5,7,9,13,17,25,33,49,65,97,129,193,257,385,513,769,1025,1537,2049,3073,4097,6145,8193,12289,16385,24577]
def farB:List Nat:=[0,0,0,0,1,1,2,2,3,3,4,4,5,5,6,6,7,7,8,8,9,9,10,10,11,11,12,12,13,13]
theorem KD {w:World} {g n:Nat} {m:Nat->Int} {cs:Array Value} (h:Blk w g 3 cs) (hc:∀i,i<n->cs[i]?=some (.int .i64 (m i))):IRow w (some ⟨g,0,none⟩) n m:=
 .inr ⟨g,0,rfl,h.lt,fun i hi=>by rw[Nat.zero_add,h.cell,hc i hi]⟩
theorem Ye1 (l:List Nat) (i:Nat) (h:i<l.length):((l.map fun (x:Nat)=>Value.int .i64 (x:Int)).toArray)[i]?=some (.int .i64 ((l.getD i 0:Nat):Int)):=by simp[List.getD,h]
theorem Ycz:∀i,i<30->((farL.getD i 0:Nat):Int)=((Yl true (i:Int)).1:Int)/\((farB.getD i 0:Nat):Int)=((Yl true (i:Int)).2:Int):=by decide
theorem Ya2:∀i,i<29->((szL.getD i 0:Nat):Int)=((Yl false (i:Int)).1:Int)/\((szB.getD i 0:Nat):Int)=((Yl false (i:Int)).2:Int):=by decide
theorem YcJ {fn:Func} {t u v x:Tmp} (h:fn.results=#[.tmp t,.tmp u,.tmp v,.tmp x]) (tmps:Array Value) (P:Program) (w:World) :
 (results fn tmps).run P w=.ok (.tuple #[tmps.getD t undef,tmps.getD u undef,tmps.getD v undef,tmps.getD x undef]) w:=by
 simp[results,h]
set_option maxHeartbeats 4000000 in
theorem YhI (w:World):Calls Tryz.prog 105 #[] w fun e w'=>∃a b c d,w.heap.size<=a/\w.heap.size<=b/\w.heap.size<=c/\w.heap.size<=d/\e=.returned (.tuple #[.slice (some ⟨a,0,none⟩) 29 29,.slice (some ⟨b,0,none⟩) 29 29,.slice (some ⟨c,0,none⟩) 30 30,.slice (some ⟨d,0,none⟩) 30 30])/\
 IRow w' (some ⟨a,0,none⟩) 29 (fun i=>((Yl false (i:Int)).1:Int))/\IRow w' (some ⟨b,0,none⟩) 29 (fun i=>((Yl false (i:Int)).2:Int))/\IRow w' (some ⟨c,0,none⟩) 30 (fun i=>((Yl true (i:Int)).1:Int))/\IRow w' (some ⟨d,0,none⟩) 30 (fun i=>((Yl true (i:Int)).2:Int))/\Below w.heap.size w w':=by
 obtain⟨c1,Hc1⟩:=Qi ((#[.int .i64 3,.int .i64 4,.int .i64 5,.int .i64 6,.int .i64 7,.int .i64 8,.int .i64 9,.int .i64 10,.int .i64 11,.int .i64 13,.int .i64 15,.int .i64 17,.int .i64 19,.int .i64 23,.int .i64 27,.int .i64 31,.int .i64 35,.int .i64 43,.int .i64 51,.int .i64 59,.int .i64 67,.int .i64 83,.int .i64 99,.int .i64 115,.int .i64 131,.int .i64 163,.int .i64 195,.int .i64 227,.int .i64 258]:Array Value));obtain⟨c2,Hc2⟩:=Qi ((#[.int .i64 0,.int .i64 0,.int .i64 0,.int .i64 0,.int .i64 0,.int .i64 0,.int .i64 0,.int .i64 0,.int .i64 1,.int .i64 1,.int .i64 1,.int .i64 1,.int .i64 2,.int .i64 2,.int .i64 2,.int .i64 2,.int .i64 3,.int .i64 3,.int .i64 3,.int .i64 3,.int .i64 4,.int .i64 4,.int .i64 4,.int .i64 4,.int .i64 5,.int .i64 5,.int .i64 5,.int .i64 5,.int .i64 0]:Array Value));obtain⟨c3,Hc3⟩:=Qi ((#[.int .i64 1,.int .i64 2,.int .i64 3,.int .i64 4,.int .i64 5,.int .i64 7,.int .i64 9,.int .i64 13,.int .i64 17,.int .i64 25,.int .i64 33,.int .i64 49,.int .i64 65,.int .i64 97,.int .i64 129,.int .i64 193,.int .i64 257,.int .i64 385,.int .i64 513,.int .i64 769,.int .i64 1025,.int .i64 1537,.int .i64 2049,.int .i64 3073,.int .i64 4097,.int .i64 6145,.int .i64 8193,.int .i64 12289,.int .i64 16385,.int .i64 24577]:Array Value));obtain⟨c4,Hc4⟩:=Qi ((#[.int .i64 0,.int .i64 0,.int .i64 0,.int .i64 0,.int .i64 1,.int .i64 1,.int .i64 2,.int .i64 2,.int .i64 3,.int .i64 3,.int .i64 4,.int .i64 4,.int .i64 5,.int .i64 5,.int .i64 6,.int .i64 6,.int .i64 7,.int .i64 7,.int .i64 8,.int .i64 8,.int .i64 9,.int .i64 9,.int .i64 10,.int .i64 10,.int .i64 11,.int .i64 11,.int .i64 12,.int .i64 12,.int .i64 13,.int .i64 13]:Array Value));have hB1:=Blk.new w 3 c1;have hB2:=Blk.new (w.alloc (.cells c1 3)) 3 c2;have hB3:=Blk.new ((w.alloc (.cells c1 3)).alloc (.cells c2 3)) 3 c3;have hB4:=Blk.new (((w.alloc (.cells c1 3)).alloc (.cells c2 3)).alloc (.cells c3 3)) 3 c4;have HI1:=Qf (KD (n:=29) (m:=fun i=>((Yl false (i:Int)).1:Int)) (((hB1.alloc (.cells c2 3)).alloc (.cells c3 3)).alloc (.cells c4 3)) (fun i hi=>by rw[<-Hc1.out,<-(Ya2 i hi).1];exact Ye1 szL i hi));have HI2:=Qf (KD (n:=29) (m:=fun i=>((Yl false (i:Int)).2:Int)) ((hB2.alloc (.cells c3 3)).alloc (.cells c4 3)) (fun i hi=>by rw[<-Hc2.out,<-(Ya2 i hi).2];exact Ye1 szB i hi));have HI3:=Qf (KD (n:=30) (m:=fun i=>((Yl true (i:Int)).1:Int)) (hB3.alloc (.cells c4 3)) (fun i hi=>by rw[<-Hc3.out,<-(Ycz i hi).1];exact Ye1 farL i hi));have HI4:=Qf (KD (n:=30) (m:=fun i=>((Yl true (i:Int)).2:Int)) hB4 (fun i hi=>by rw[<-Hc4.out,<-(Ycz i hi).2];exact Ye1 farB i hi));have HBl:=Qf (((((Below.refl w.heap.size w).alloc (Qa _) (.cells c1 3)).alloc (by simp) (.cells c2 3)).alloc (by simp;omega) (.cells c3 3)).alloc (by simp;omega) (.cells c4 3));rw[Vm] at HI2;rw[Vm,Vm] at HI3;rw[Vm,Vm,Vm] at HI4;clear hB1 hB2 hB3 hB4;go_enter Tryz.func105,Tryz.ntmps105;go_wp2_with fail;rw[Hc1.out,Hc2.out,Hc3.out,Hc4.out]
 (try simp only[Exit.inBlock,Exit.then])
 refine bodyPost_ret (YcJ rfl _ _ _) rfl ?_;exact⟨_,_,_,_,Qa _,by omega,by omega,by omega,rfl,HI1.out,HI2.out,HI3.out,HI4.out,HBl.out⟩
set_option maxHeartbeats 8000000 in
theorem Yf5 (L:List Hd) (a:Option Addr) (cap:Nat) (at':Int) (hL:L.length<=1000000) (hc:∀h ∈ L,h.crc<4294967296) (hn:∀h ∈ L,h.name.size<=1000000000) (ht:(idxH L).length<=50000000000) (w:World) (hr:HRow w a L) :
 Calls Tryz.prog 47 #[.slice a L.length cap,.int .i64 at'] w fun e w'=>e=.returned (.string ⟨(YJ L at').toArray⟩)/\Below w.heap.size w w':=by
 have HR:=Qf hr;have Hc:=Qf hc;have Hn:=Qf hn;have HB0:=Qf (Below.refl w.heap.size w);obtain⟨M,HM⟩:=Qi (L.length);rw[HM.out] at hL ⊢;have C2:=Qf Yhm;have C4:=Qf Yfc;have C10:Hid (∀W,Calls Tryz.prog 68 #[.int .u64 0,.int .i64 10] W fun e w'=>e=.returned (.string (putB 0 10))/\Below W.heap.size W w'):=fun W=>Ja 0 10 (by decide) (by decide) W;clear hr hc hn;go_enter Tryz.func47,Tryz.ntmps47;go_wp2_with fail
 go_loopw [5,10] (fun s_ j_ wr=>∃(j:Nat),j<=M/\j_=.int .i64 (j:Int)/\s_=.string ⟨(idxH (L.take j)).toArray⟩/\Hid (Below w.heap.size w wr)) (fun _ j _=>M-(intOf j).toNat)
 case atStart=>exact⟨0,Nat.zero_le _,rfl,rfl,HB0⟩
 clear HB0;obtain⟨j,hj,rfl,rfl,HBl⟩:=hrel;by_cases hlt:j<M
 . obtain⟨dj,djb⟩:=Qj (show j<M by omega)
   have hjI:(j:Int)<(M:Int):=by omega
   have hjL:j<L.length:=by rw[HM.out];exact hlt
   obtain⟨b,off,rfl,hbl,hcl⟩:=(HR.out.below HBl.out (Qa _)) j hjL;have hmem:=List.getElem_mem hjL;have hcr:=Hc.out _ hmem;have hnm:=Hn.out _ hmem;have hsn:=Yc9 L j hjL;have hle:=YiN L (j+1)
   have hz0:(⟨(idxH (L.take j)).toArray⟩:ByteArray).size=(idxH (L.take j)).length:=by show(idxH (L.take j)).toArray.size=_;rw[List.size_toArray]
   obtain⟨h,Hh⟩:=Qi (L[j]);rw[Hh.out] at hcl hcr hnm hsn;rw[hsn,List.length_append,VC] at hle;have CFa:=Qf (fun W=>Ya8 h hcr W)
   have hfl:(⟨(Va h).toArray⟩:ByteArray).size=26:=by show(Va h).toArray.size=26;rw[List.size_toArray,XD]
   have HE:Hid ((⟨(idxH (L.take j)).toArray⟩:ByteArray)++((⟨#[80,75,1,2]⟩:ByteArray)++putB 20 2++⟨(Va h).toArray⟩++putB 0 10++putB h.place 4++h.name)=⟨(idxH (L.take (j+1))).toArray⟩):=by
    show _=_;rw[hsn];unfold X6 putB fldL;apply ByteArray.ext;apply Array.ext';simp only[ByteArray.data_append,Array.toList_append,List.flatMap_cons,List.flatMap_nil,List.append_nil,List.append_assoc]
   have D2:=Qf (C2.out 20);have D4:=Qf (C4.out h.place);have D10:=Qf C10.out;have s1:=VL 20 2;have s3:=VL 0 10;have s4:=VL h.place 4;obtain⟨S0,HS0⟩:=Qi ((⟨(idxH (L.take j)).toArray⟩:ByteArray));obtain⟨S1,HS1⟩:=Qi ((⟨(idxH (L.take (j+1))).toArray⟩:ByteArray));obtain⟨x1,Hx1⟩:=Qi (putB 20 2);obtain⟨x2,Hx2⟩:=Qi ((⟨(Va h).toArray⟩:ByteArray));obtain⟨x3,Hx3⟩:=Qi (putB 0 10);obtain⟨x4,Hx4⟩:=Qi (putB h.place 4);rw[HS0.out,HS1.out,Hx1.out,Hx2.out,Hx3.out,Hx4.out] at HE;rw[HS0.out] at hz0 ⊢;rw[Hx1.out] at D2 s1;rw[Hx2.out] at CFa hfl;rw[Hx3.out] at D10 s3;rw[Hx4.out] at D4 s4;obtain⟨nm,me,cr,pk,sz,pl⟩:=h;dsimp only at hcr hnm HE hle D4;unfold Hd.val at CFa;unfold Hd.cells at CFa hcl;dsimp only at CFa hcl;have k0:=hcl 0 _ rfl;have k1:=hcl 1 _ rfl;have k2:=hcl 2 _ rfl;have k3:=hcl 3 _ rfl;have k4:=hcl 4 _ rfl;have k5:=hcl 5 _ rfl;simp only[Nat.add_zero] at k0;have hov1:¬9223372036854775807<S0.size+(46+nm.size):=by omega
   have hov2:¬9223372036854775807<46+nm.size:=by omega
   have hov3:¬9223372036854775807<4+2+26+10+4+nm.size:=by omega
   have hov4:¬9223372036854775807<S0.size+(4+2+26+10+4+nm.size):=by omega
   have HBn:=Qf (Blk.new wr 42 #[.string nm,.int .i64 me,.int .u32 (cr:Int),.int .i64 pk,.int .i64 sz,.int .i64 pl]);have HBa:=Qf (HBl.out.alloc HBl.out.size (.cells #[.string nm,.int .i64 me,.int .u32 (cr:Int),.int .i64 pk,.int .i64 sz,.int .i64 pl] 42));clear hcl hbl hjL hmem hsn HBl Hh HS0 Hx1 Hx2 Hx3 Hx4 hz0 hle;go_upto_region 5 with fail;obtain⟨G,HG⟩:=Qi (wr.heap.size);rw[HG.out] at HBn ⊢;obtain⟨w2,HW2⟩:=Qi (wr.alloc (.cells #[.string nm,.int .i64 me,.int .u32 (cr:Int),.int .i64 pk,.int .i64 sz,.int .i64 pl] 42));rw[HW2.out] at HBa HBn ⊢;clear HW2 k0 k1 k2 k3 k4 k5
   have HS:Hid (∀W,Below w2.heap.size w2 W->W.cell? ⟨G,0,none⟩=some (.string nm)/\W.cell? ⟨G,1,none⟩=some (.int .i64 me)/\W.cell? ⟨G,2,none⟩=some (.int .u32 (cr:Int))/\W.cell? ⟨G,3,none⟩=some (.int .i64 pk)/\W.cell? ⟨G,4,none⟩=some (.int .i64 sz)/\W.cell? ⟨G,5,none⟩=some (.int .i64 pl)):=fun W hb=>by
    have h:=HBn.out.below hb HBn.out.lt;exact⟨h.cell 0,h.cell 1,h.cell 2,h.cell 3,h.cell 4,h.cell 5⟩
   obtain⟨k0,k1,k2,k3,k4,k5⟩:=HS.out w2.drew ((Below.refl _ _).drew)
   go_region_held3 (fun W=>W.cell? ⟨G,0,none⟩=some (.string nm)/\W.cell? ⟨G,1,none⟩=some (.int .i64 me)/\W.cell? ⟨G,2,none⟩=some (.int .u32 (cr:Int))/\W.cell? ⟨G,3,none⟩=some (.int .i64 pk)/\W.cell? ⟨G,4,none⟩=some (.int .i64 sz)/\W.cell? ⟨G,5,none⟩=some (.int .i64 pl))
    (first|(refine HS.out _ ?_;(repeat' (first|with_reducible exact Below.refl _ _|with_reducible assumption|with_reducible apply Below.drew|with_reducible apply Yo))))
    (first
     |(go_at_call 52;refine(D2.out _).mono ?_;rintro e w3 ⟨rfl,hb3⟩;have HB3:Below w2.heap.size w2 w3:=Yk (by(repeat' (first|with_reducible exact Below.refl _ _|with_reducible assumption|with_reducible apply Below.drew|with_reducible apply Yo))) hb3;clear hb3)
     |(go_at_call 35;refine(CFa.out _).mono ?_;rintro e w3 ⟨rfl,hb3⟩;have HB3:Below w2.heap.size w2 w3:=Yk (by(repeat' (first|with_reducible exact Below.refl _ _|with_reducible assumption|with_reducible apply Below.drew|with_reducible apply Yo))) hb3;clear hb3)
     |(go_at_call 68;refine(D10.out _).mono ?_;rintro e w3 ⟨rfl,hb3⟩;have HB3:Below w2.heap.size w2 w3:=Yk (by(repeat' (first|with_reducible exact Below.refl _ _|with_reducible assumption|with_reducible apply Below.drew|with_reducible apply Yo))) hb3;clear hb3)
     |(go_at_call 53;refine(D4.out _).mono ?_;rintro e w3 ⟨rfl,hb3⟩;have HB3:Below w2.heap.size w2 w3:=Yk (by(repeat' (first|with_reducible exact Below.refl _ _|with_reducible assumption|with_reducible apply Below.drew|with_reducible apply Yo))) hb3;clear hb3))
   all_goals
    go_wp2_with fail;go_roundw
    case rel=>exact⟨j+1,by omega,by go_num,by rw[HE.out,HS1.out],Qf (Yk HBa.out (by(repeat' (first|with_reducible exact Below.refl _ _|with_reducible assumption|with_reducible apply Below.drew|with_reducible apply Yo))))⟩
    simp[intOf];omega
 obtain rfl:j=M:=by omega
 have dj:decide ((j:Int)<(j:Int))=false:=Qh (by omega);have htk:idxH (L.take j)=idxH L:=by rw[<-HM.out,List.take_length]
 have hzS:(⟨(idxH (L.take j)).toArray⟩:ByteArray).size=(idxH L).length:=by show(idxH (L.take j)).toArray.size=_;rw[List.size_toArray,htk]
 have HE:Hid ((⟨(idxH (L.take j)).toArray⟩:ByteArray)++⟨#[80,75,5,6]⟩++putB 0 4++putB (j:Int) 2++putB (j:Int) 2++putB ((idxH L).length:Int) 4++putB at' 4++putB 0 2=⟨(YJ L at').toArray⟩):=by
  show _=_;unfold YJ endL putB fldL;rw[htk,HM.out];apply ByteArray.ext;apply Array.ext';simp only[ByteArray.data_append,Array.toList_append,List.flatMap_cons,List.flatMap_nil,List.append_nil,List.append_assoc]
 have s0:=VL 0 4;have s1:=VL (j:Int) 2;have s3:=VL ((idxH L).length:Int) 4;have s4:=VL at' 4;have s5:=VL 0 2;obtain⟨IX,HIX⟩:=Qi ((⟨(YJ L at').toArray⟩:ByteArray));obtain⟨S0,HS0⟩:=Qi ((⟨(idxH (L.take j)).toArray⟩:ByteArray));rw[HIX.out] at HE;rw[HS0.out] at HE hzS ⊢;rw[<-hzS] at HE s3 ht;have D0:=Qf (C4.out 0);have D1:=Qf (C2.out (j:Int));have D3:=Qf (C4.out (S0.size:Int));have D4:=Qf (C4.out at');have D5:=Qf (C2.out 0);obtain⟨y0,Hy0⟩:=Qi (putB 0 4);obtain⟨y1,Hy1⟩:=Qi (putB (j:Int) 2);obtain⟨y3,Hy3⟩:=Qi (putB (S0.size:Int) 4);obtain⟨y4,Hy4⟩:=Qi (putB at' 4);obtain⟨y5,Hy5⟩:=Qi (putB 0 2);rw[Hy0.out,Hy1.out,Hy3.out,Hy4.out,Hy5.out] at HE;rw[Hy0.out] at D0 s0;rw[Hy1.out] at D1 s1;rw[Hy3.out] at D3 s3;rw[Hy4.out] at D4 s4;rw[Hy5.out] at D5 s5;have o1:¬9223372036854775807<S0.size+4:=by omega
 have o2:¬9223372036854775807<S0.size+4+4:=by omega
 have o3:¬9223372036854775807<S0.size+4+4+2:=by omega
 have o4:¬9223372036854775807<S0.size+4+4+2+2:=by omega
 have o5:¬9223372036854775807<S0.size+4+4+2+2+4:=by omega
 have o6:¬9223372036854775807<S0.size+4+4+2+2+4+4:=by omega
 have o7:¬9223372036854775807<S0.size+4+4+2+2+4+4+2:=by omega
 clear hzS htk HS0 Hy0 Hy1 Hy3 Hy4 Hy5;go_wp2_with fail;refine(D0.out _).mono ?_;rintro e v0 ⟨rfl,hb0⟩;have HB1:=Qf (Yk HBl.out hb0);clear hb0;go_wp2_with fail;refine(D1.out _).mono ?_;rintro e v1 ⟨rfl,hb1⟩;have HB2:=Qf (Yk HB1.out hb1);clear hb1;go_wp2_with fail;refine(D1.out _).mono ?_;rintro e v2 ⟨rfl,hb2⟩;have HB3:=Qf (Yk HB2.out hb2);clear hb2;go_wp2_with fail;refine(D3.out _).mono ?_;rintro e v3 ⟨rfl,hb3⟩;have HB4:=Qf (Yk HB3.out hb3);clear hb3;go_wp2_with fail;refine(D4.out _).mono ?_;rintro e v4 ⟨rfl,hb4⟩;have HB5:=Qf (Yk HB4.out hb4);clear hb4;go_wp2_with fail;refine(D5.out _).mono ?_;rintro e v5 ⟨rfl,hb5⟩;have HB6:=Qf (Yk HB5.out hb5);clear hb5;go_wp2_with fail;go_ret;exact⟨by rw[HIX.out,<-HE.out];rfl,HB6.out⟩
def gB (s:ByteArray):Nat->Bool
 |0=>decide (0<s.size)&&decide (s.size<65)
 |k+1=>gB s k&&prn (s.get! k)
theorem Ylr (s:ByteArray):∀k,gB s k=true ↔ (0<s.size/\s.size<65)/\∀i,i<k->prn (s.get! i)=true:=by
 intro k
 induction k with
 |zero=>simp[gB]
 |succ k ih=>
  rw[gB,Bool.and_eq_true,ih];constructor
  . rintro ⟨⟨h1,h2⟩,h3⟩
    refine⟨h1,fun i hi=>?_⟩;by_cases h:i=k
    . subst h;exact h3
    exact h2 i (by omega)
  rintro ⟨h1,h2⟩;exact⟨⟨h1,fun i hi=>h2 i (by omega)⟩,h2 k (by omega)⟩
open Classical in
theorem YnH (s:ByteArray):gB s s.size=nmB s:=by
 by_cases hk:nmOK s
 . have e1:nmB s=true:=by unfold nmB;exact decide_eq_true hk
   have e2:gB s s.size=true:=(Ylr s _).2 ⟨⟨by have:=hk.1;omega,by have:=hk.2.1;omega⟩,hk.2.2⟩;rw[e1,e2]
 have e1:nmB s=false:=by unfold nmB;exact decide_eq_false hk
 have e2:gB s s.size=false:=by
  cases h:gB s s.size with
  |false=>rfl
  |true=>
   obtain⟨⟨h1,h2⟩,h3⟩:=(Ylr s _).1 h;exact absurd ⟨by omega,by omega,h3⟩ hk
 rw[e1,e2]
theorem Yai (s:ByteArray) (hs:s.size<=maxLen) (w:World):Calls Tryz.prog 18 #[.string s] w fun e w'=>e=.returned (.bool (nmB s))/\w=w':=by
 unfold maxLen at hs;have HN:=Qf (YnH s);obtain⟨r,Hr⟩:=Qi (nmB s);rw[Hr.out] at HN ⊢;have H0:Hid (gB s 0=(decide (0<s.size)&&decide (s.size<65))):=rfl;obtain⟨g0,Hg0⟩:=Qi (gB s 0);rw[Hg0.out] at H0
 have hcs:(decide ((0:Int)<(s.size:Int))=false/\decide (0<s.size)=false/\g0=false)\/(decide ((0:Int)<(s.size:Int))=true/\decide (0<s.size)=true/\decide ((s.size:Int)<65)=g0/\decide (s.size<65)=g0):=by
  have h0:=H0.out;by_cases h:0<s.size
  . right
    have e1:decide (0<s.size)=true:=decide_eq_true h;refine⟨Qg (by omega),e1,?_,?_⟩
    . rw[h0,e1,Bool.true_and]
      exact decide_eq_decide.2 (by omega)
    rw[h0,e1,Bool.true_and]
  left;have e1:decide (0<s.size)=false:=decide_eq_false h;exact⟨Qh (by omega),e1,by rw[h0,e1,Bool.false_and]⟩
 clear H0 Hr;rcases hcs with⟨d0,d0b,e0⟩|⟨d0,d0b,d1,d1b⟩
 all_goals
  go_enter Tryz.func18,Tryz.ntmps18;go_wp2_with fail;clear d0 d0b
  go_loopw [3,4] (fun g_ j_ wr=>∃(j:Nat) (g:Bool),j<=s.size/\j_=.int .i64 (j:Int)/\g_=.bool g/\Hid (gB s j=g)/\w=wr) (fun _ j _=>s.size-(intOf j).toNat)
  case atStart=>first|exact⟨0,_,Nat.zero_le _,rfl,rfl,Hg0,rfl⟩|exact⟨0,_,Nat.zero_le _,rfl,rfl,(by show _=_;rw[Hg0.out,e0]),rfl⟩
  obtain⟨j,g,hj,rfl,rfl,HG,rfl⟩:=hrel;by_cases hlt:j<s.size
  . obtain⟨dj,djb⟩:=Qj (show j<s.size by omega)
    have hjI:(j:Int)<(s.size:Int):=by omega
    have hb:s.get! j=s[j]:=by
     show s.data[j]! = s.data[j];exact getElem!_pos s.data j (by exact hlt)
    have HGn:Hid (gB s (j+1)=(g&&prn s[j])):=by show _=_;rw[gB,HG.out,hb]
    obtain⟨q1,hq1⟩:∃x,decide (33<=s[j].toNat)=x:=⟨_,rfl⟩;obtain⟨q2,hq2⟩:∃x,decide (s[j].toNat<=126)=x:=⟨_,rfl⟩;have hp:prn s[j]=(q1&&q2):=(by unfold prn;rw[hq1,hq2]);have q1I:decide ((33:Int)<=(s[j].toNat:Int))=q1:=(by rw[<-hq1];exact decide_eq_decide.2 (by omega));have q2I:decide ((s[j].toNat:Int)<=126)=q2:=(by rw[<-hq2];exact decide_eq_decide.2 (by omega));rw[hp] at HGn;clear hb hp
    cases g with
    |false=>
     go_wp2_with fail;go_roundw
     case rel=>exact⟨j+1,false,by omega,by go_num,rfl,HGn,(by first|rfl|trivial)⟩
     simp[intOf];omega
    |true=>
     cases q1 with
     |false=>
      go_wp2_with fail;go_roundw
      case rel=>exact⟨j+1,false,by omega,by go_num,rfl,HGn,(by first|rfl|trivial)⟩
      simp[intOf];omega
     |true=>
      go_wp2_with fail;go_roundw
      case rel=>exact⟨j+1,q2,by omega,by go_num,rfl,HGn,(by first|rfl|trivial)⟩
      simp[intOf];omega
  obtain rfl:j=s.size:=by omega
  have dj:decide ((s.size:Int)<(s.size:Int))=false:=Qh (by omega);have hg:g=r:=by rw[<-HG.out,HN.out]
  subst hg;go_wp2_with fail;go_ret;exact⟨rfl,rfl⟩
theorem YeJ (s:ByteArray) (i n:Nat) (hn:n<=4) (hs:s.size<=1000000000) (hi:i<=9000000000) (w:World) :
 Calls Tryz.prog 46 #[.string s,.int .i64 (i:Int),.int .i64 (n:Int)] w fun e w'=>e=.returned (.int .i64 (rget s i n:Int))/\w=w':=by
 have HG:Hid (rget s i n=if s.size<i+n then 0 else atN s i n):=rfl;obtain⟨N,HN⟩:=Qi (rget s i n);rw[HN.out] at HG ⊢;have d0:decide ((i:Int)<0)=false:=Qh (by omega);obtain⟨e,He⟩:=Qi (i+n);rw[He.out] at HG
 have hw:IntKind.i64.wrap ((i:Int)+(n:Int))=(e:Int):=by have:=He.out;rw[IntKind.wrap_i64];omega
 have hie:i<=e:=by have:=He.out;omega
 by_cases h:s.size<e
 . obtain⟨d1,d1b⟩:=Qj (show s.size<e by omega)
   have hN:N=0:=by rw[HG.out,if_pos h]
   subst hN;clear HG HN;go_enter Tryz.func46,Tryz.ntmps46;go_wp2_with fail;go_ret;exact⟨rfl,rfl⟩
 obtain⟨d1,d1b⟩:=Ql (show e<=s.size by omega);have h1:(i:Int)<=(e:Int):=by omega
 have h2:(e:Int)<=(s.size:Int):=by omega
 have hlt:=YaL s i n hn
 have hN:Hid (atN s i n=N):=by show _=_;rw[HG.out,if_neg h]
 have CG:=Qf (fun W=>Yf8 (s.extract i e) W (by rw[ByteArray.size_extract];unfold maxLen;omega));have e0:getN ((s.extract i e).data.toList.take 8)=N:=by rw[<-hN.out,<-He.out];rfl
 rw[e0] at CG;rw[hN.out] at hlt
 have hwN:wrap64 (N:Int)=(N:Int):=by have:=IntKind.wrap_i64 (N:Int);unfold wrap64;omega
 clear e0 HG;go_enter Tryz.func46,Tryz.ntmps46;go_wp2_with fail;refine(CG.out _).mono ?_;rintro e w1 ⟨rfl,rfl⟩;go_wp2_with fail;go_ret;exact⟨rfl,rfl⟩
theorem Yj6 (s:ByteArray) (i n:Int) (hi:i<0) (w:World) :
 Calls Tryz.prog 46 #[.string s,.int .i64 i,.int .i64 n] w fun e w'=>e=.returned (.int .i64 0)/\w=w':=by
 have d0:decide (i<0)=true:=by rw[decide_eq_true_eq];exact hi
 clear hi;go_enter Tryz.func46,Tryz.ntmps46;go_wp2_with fail;go_ret;exact⟨rfl,rfl⟩
end Go.Proofs.YthehocmfpoglgaaGreat
