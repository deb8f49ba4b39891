/- Texts joined: Def3 LenF DynQ SpR. Conditions: each theorem says its own. -/
import Derived.Test.YthehocmfpoglgaaGreatJcephoj
import Derived.Test.YthehocmfpoglgaaGreatLenXJ
import Derived.Test.YthehocmfpoglgaaGreatJjfkkml
import Derived.Test.YthehocmfpoglgaaGreatStepWJ
namespace Go.Proofs.YthehocmfpoglgaaGreat
open Go.RowKit
set_option maxRecDepth 100000
def litS (t:Tok):List Nat:=[if t.l=0 then t.b.toNat else 257+lsym t]
def dstS (t:Tok):List Nat:=if t.l=0 then [] else [dsym t]
def LSy (S:List Tok):List Nat:=256::S.flatMap litS
def DSy (S:List Tok):List Nat:=S.flatMap dstS
theorem Yfx (S:List Tok) (j:Nat) (hj:j<S.length):LSy (S.take (j+1))=LSy (S.take j)++litS (tk S j):=by
 unfold LSy;rw[List.take_succ_eq_append_getElem hj,<-J2 hj,List.flatMap_append];simp
theorem Yfy (S:List Tok) (j:Nat) (hj:j<S.length):DSy (S.take (j+1))=DSy (S.take j)++dstS (tk S j):=by
 unfold DSy;rw[List.take_succ_eq_append_getElem hj,<-J2 hj,List.flatMap_append];simp
theorem Yeq (S:List Tok):(LSy S).length=S.length+1:=by
 unfold LSy;rw[List.length_cons]
 congr 1
 induction S with
 |nil=>rfl
 |cons t S ih=>rw[List.flatMap_cons,List.length_append,ih,List.length_cons];show 1+_=_;omega
theorem Yer (S:List Tok):(DSy S).length<=S.length:=by
 unfold DSy
 induction S with
 |nil=>exact Qa _
 |cons t S ih=>
  rw[List.flatMap_cons,List.length_append,List.length_cons];have:(dstS t).length<=1:=by unfold dstS;split<;>simp
  omega
set_option maxHeartbeats 32000000 in
theorem YgM (S:List Tok) (hS:S.length<=100000) (a:Option Addr) (cap:Nat) (ht:∀t ∈ S,TokW 286 30 t) (w:World) (hr:TkRow w a S) :
 Calls Tryz.prog 90 #[.slice a S.length cap] w fun e w'=>∃gl gd,e=.returned (.tuple #[.slice (some ⟨gl,0,none⟩) 286 286,.slice (some ⟨gd,0,none⟩) 30 30])/\w.heap.size<=gl/\w.heap.size<=gd/\Blk w' gl 3 (Yg 286 (cntC (LSy S)))/\Blk w' gd 3 (Yg 30 (cntC (DSy S)))/\Below w.heap.size w w':=by
 have HR:=Qf hr;have Ht:=Qf ht;have hmk1:∀W,(Instr.makeSlice 113 (.int .i64 286) (.int .i64 286)).run Tryz.prog W=.ok (.slice (some ⟨W.heap.size,0,none⟩) 286 286) (W.alloc (.cells (Yg 286 (fun _=>.int .i64 0)) 3)):=fun W=>UR 286 (by decide) W;have hmk2:∀W,(Instr.makeSlice 113 (.int .i64 30) (.int .i64 30)).run Tryz.prog W=.ok (.slice (some ⟨W.heap.size,0,none⟩) 30 30) (W.alloc (.cells (Yg 30 (fun _=>.int .i64 0)) 3)):=fun W=>UR 30 (by decide) W;obtain⟨M,HM⟩:=Qi (S.length);have Htk:=HM;rw[HM.out] at hS ⊢;obtain⟨f1,Hf1⟩:=Qi ((Yg 286 (fun _=>Value.int .i64 0)));obtain⟨f2,Hf2⟩:=Qi ((Yg 30 (fun _=>Value.int .i64 0)));rw[Hf1.out] at hmk1;rw[Hf2.out] at hmk2;clear hr ht;go_enter Tryz.func90,Tryz.ntmps90;go_wp2_with fail
 go_region
 . have hQ1:=(Blk.new w 3 f1).alloc (.cells f2 3)
   have hQ2:=Blk.new (w.alloc (.cells f1 3)) 3 f2;rw[Vm] at hQ2;have hbb:Below w.heap.size w ((w.alloc (.cells f1 3)).alloc (.cells f2 3)).drew:=(((Below.refl w.heap.size w).alloc (Qa _) (.cells f1 3)).alloc (by simp) (.cells f2 3)).drew;have hXA:Blk ((w.alloc (.cells f1 3)).alloc (.cells f2 3)).drew (w.heap.size) 3 f1:=hQ1;have hXB:Blk ((w.alloc (.cells f1 3)).alloc (.cells f2 3)).drew (w.heap.size+1) 3 f2:=hQ2;obtain⟨gl,HPA⟩:=Qi (w.heap.size);obtain⟨gd,HPB⟩:=Qi (w.heap.size+1);obtain⟨w1,HW4⟩:=Qi (((w.alloc (.cells f1 3)).alloc (.cells f2 3)).drew);rw[HW4.out] at hbb hXA hXB ⊢
   have hne:gl ≠ gd:=by have:=HPA.out;have:=HPB.out;omega
   have hgl:w.heap.size<=gl:=by have:=HPA.out;omega
   have hgd:w.heap.size<=gd:=by have:=HPB.out;omega
   rw[HPB.out] at hXB ⊢;rw[HPA.out] at hXA ⊢;clear hQ1 hQ2 HPA HPB HW4;have hc0:w1.cell? ⟨gl,256,none⟩=some (.int .i64 0):=(Blk.cell hXA 256).trans (by rw[<-Hf1.out];exact Yp _ _ _ (by decide));have hf0:=Blk.frozen hXA 256
   have hset0:f1.setIfInBounds 256 (.int .i64 1)=Yg 286 (cntC (LSy (S.take 0))):=by
    rw[<-Hf1.out,YA];refine Ys _ _ _ fun i _=>?_;unfold cntC LSy;by_cases e:i=256
    . subst e;rw[if_pos rfl];rfl
    rw[if_neg e,List.take_zero];have:(256::List.flatMap litS []).count i=0:=(by rw[List.count_eq_zero];simp;exact e);rw[this];rfl
   have HA0:Hid (Blk (w1.setCell ⟨gl,256,none⟩ (.int .i64 1)) gl 3 (Yg 286 (cntC (LSy (S.take 0))))):=by show Blk _ _ _ _;rw[<-hset0];exact Blk.set_ hXA 256 _
   have HD0:Hid (Blk (w1.setCell ⟨gl,256,none⟩ (.int .i64 1)) gd 3 (Yg 30 (cntC (DSy (S.take 0))))):=by
    show Blk _ _ _ _
    have e:Yg 30 (cntC (DSy (S.take 0)))=f2:=by
     rw[<-Hf2.out]
     exact Ys _ _ _ fun i _=>by unfold cntC DSy;rw[List.take_zero];rfl
    rw[e];exact Blk.far hXB (Ne.symm hne) _
   have HB0:=Qf (hbb.setCell (p:=⟨gl,256,none⟩) hgl (.int .i64 1));clear hset0 hXA hXB hbb;go_wp2_with fail
   go_loopw [17] (fun j_ wr=>∃j:Nat,j<=M/\j_=.int .i64 (j:Int)/\Hid (Blk wr gl 3 (Yg 286 (cntC (LSy (S.take j)))))/\Hid (Blk wr gd 3 (Yg 30 (cntC (DSy (S.take j)))))/\Hid (Below w.heap.size w wr)) (fun j _=>M-(intOf j).toNat)
   case atStart=>exact⟨0,Nat.zero_le _,rfl,HA0,HD0,HB0⟩
   clear HA0 HD0 HB0 hc0 hf0;obtain⟨j,hj,rfl,HA,HD,HB⟩:=hrel;by_cases hlt:j<M
   . have dj:decide ((j:Int)<(M:Int))=true:=Qg (by omega)
     have hlI:(j:Int)<(M:Int):=(by omega);have hjS:j<S.length:=(by rw[HM.out];exact hlt);obtain⟨b,off,rfl,_,c0,c1,c2⟩:=(HR.out.below HB.out (Qa _)).get j hjS;have hok:=Ht.out (tk S j) (by rw[J2 hjS];exact List.getElem_mem _);have hLs:=Yfx S j hjS;have hDs:=Yfy S j hjS;obtain⟨⟨tb,tl,td⟩,Htt⟩:∃R,Hid (tk S j=R):=⟨_,Qf (Eq.refl _)⟩;rw[Htt.out] at c0 c1 c2 hok hLs hDs;dsimp only at c0 c1 c2;obtain⟨LJ,HLJ⟩:=Qi (LSy (S.take j));obtain⟨DJ,HDJ⟩:=Qi (DSy (S.take j));have hSl1:LJ.length<=200000:=(by rw[<-HLJ.out,Yeq,List.length_take];omega);have hSl2:DJ.length<=200000:=(by rw[<-HDJ.out];exact Qe (Yer _) (by rw[List.length_take];omega));rw[HLJ.out] at HA hLs;rw[HDJ.out] at HD hDs;have hBA:=Blk.new wr 119 #[.int .u8 (tb.toNat:Int),.int .i64 tl,.int .i64 td];have hal:=(Below.refl wr.heap.size wr).alloc (Qa _) (.cells #[.int .u8 (tb.toNat:Int),.int .i64 tl,.int .i64 td] 119);have HA2:=Qf (HA.out.alloc (.cells #[.int .u8 (tb.toNat:Int),.int .i64 tl,.int .i64 td] 119));have HD2:=Qf (HD.out.alloc (.cells #[.int .u8 (tb.toNat:Int),.int .i64 tl,.int .i64 td] 119));have HB2:=Qf (HB.out.trans (hal.mono HB.out.size));have ht0:(wr.alloc (.cells #[.int .u8 (tb.toNat:Int),.int .i64 tl,.int .i64 td] 119)).cell? ⟨wr.heap.size,0,none⟩=some (.int .u8 (tb.toNat:Int)):=hBA.cell 0;have ht1:(wr.alloc (.cells #[.int .u8 (tb.toNat:Int),.int .i64 tl,.int .i64 td] 119)).cell? ⟨wr.heap.size,1,none⟩=some (.int .i64 tl):=hBA.cell 1;have HT2:=Qf hBA;have hbyte:=tb.toNat_lt;have HLs:=Qf hLs;have HDs:=Qf hDs;have Hglt:=Qf (show gl<wr.heap.size from HA.out.lt);clear hBA hal hLs hDs HA HD HB;by_cases hl0:tl=0
     . subst hl0
       have d1:((0:Int)==0)=true:=rfl;obtain⟨y,Hy⟩:=Qi (tb.toNat);rw[Hy.out] at c0 ht0 ht1 hbyte HA2 HD2 HB2 HT2;have hy1:y<286:=(by omega);have hc1:(wr.alloc (.cells #[.int .u8 (y:Int),.int .i64 0,.int .i64 td] 119)).cell? ⟨gl,y,none⟩=some (cntC LJ y):=(Blk.cell HA2.out y).trans (Yp _ _ _ hy1);have hf1:=Blk.frozen HA2.out y;have hset1:=X0 286 LJ y;unfold cntC at hc1;obtain⟨k1,Hk1⟩:=Qi ((LJ).count y);have hkl1:k1<=200000:=(by rw[<-Hk1.out];exact Qe List.count_le_length hSl1);rw[Hk1.out] at hc1 hset1;obtain⟨kk1,Hkk1⟩:=Qi (k1+1);have hkv1:=Hkk1.out;have wk1:IntKind.i64.wrap ((k1:Int)+1)=(kk1:Int):=(by rw[IntKind.wrap_i64];omega);rw[hkv1] at hset1;have hyI1:(y:Int)<286:=by omega
       have HA3:Hid (∀m,Blk (((wr.alloc (.cells #[.int .u8 (y:Int),.int .i64 0,.int .i64 td] 119)).setCell ⟨gl,y,none⟩ (.int .i64 (kk1:Int))).drewN m) gl 3 (Yg 286 (cntC (LSy (S.take (j+1)))))):=fun m=>by
        have e:litS ⟨tb,0,td⟩=[y]:=by show[tb.toNat]=_;rw[Hy.out]
        rw[HLs.out,e,<-hset1];exact Blk.set_ HA2.out y _
       have HD3:Hid (∀m,Blk (((wr.alloc (.cells #[.int .u8 (y:Int),.int .i64 0,.int .i64 td] 119)).setCell ⟨gl,y,none⟩ (.int .i64 (kk1:Int))).drewN m) gd 3 (Yg 30 (cntC (DSy (S.take (j+1)))))):=fun m=>by
        have e:dstS ⟨tb,0,td⟩=[]:=rfl;rw[HDs.out,e,List.append_nil];exact Blk.far HD2.out (Ne.symm hne) _
       have HB3:Hid (∀m,Below w.heap.size w (((wr.alloc (.cells #[.int .u8 (y:Int),.int .i64 0,.int .i64 td] 119)).setCell ⟨gl,y,none⟩ (.int .i64 (kk1:Int))).drewN m)):=fun m=>Yh (HB2.out.setCell hgl _) m;clear hset1 hkv1 hok HA2 HD2 HB2 HT2;go_wp2_with fail;go_roundw
       case rel=>exact⟨j+1,by omega,by go_num,HA3.out 0,HD3.out 0,HB3.out 0⟩
       simp[intOf];omega
     have d1:(tl==0)=false:=(by simp;exact hl0);obtain⟨_,htb,h3,h258,hd1,hd32,hs1,hs2⟩:=hok.resolve_left fun h=>hl0 h.1;obtain⟨n,rfl⟩:∃n:Nat,tl=(n:Int):=⟨tl.toNat,by dsimp only at h3;omega⟩;obtain⟨dd,rfl⟩:∃n:Nat,td=(n:Int):=⟨td.toNat,by dsimp only at hd1;omega⟩;dsimp only at h3 h258 hd1 hd32;have CS1:=Qf (fun W=>XB false n ⟨by decide,by show 3<=n;omega⟩ (by omega) W);have CS2:=Qf (fun W=>XB true dd ⟨by decide,by show 1<=dd;omega⟩ (by omega) W);have e1:symF false n 30=lsym ⟨tb,(n:Int),(dd:Int)⟩:=YdD n;have e2:symF true dd 30=dsym ⟨tb,(n:Int),(dd:Int)⟩:=rfl;rw[e1] at CS1;rw[e2] at CS2;have el:litS ⟨tb,(n:Int),(dd:Int)⟩=[257+lsym ⟨tb,(n:Int),(dd:Int)⟩]:=(by unfold litS;rw[if_neg (by show ¬(n:Int)=0;omega)]);have ed:dstS ⟨tb,(n:Int),(dd:Int)⟩=[dsym ⟨tb,(n:Int),(dd:Int)⟩]:=(by unfold dstS;rw[if_neg (by show ¬(n:Int)=0;omega)]);obtain⟨i1,Hi1⟩:=Qi (lsym ⟨tb,(n:Int),(dd:Int)⟩);obtain⟨y2,Hi2⟩:=Qi (dsym ⟨tb,(n:Int),(dd:Int)⟩);rw[Hi1.out] at CS1 hs1 el;rw[Hi2.out] at CS2 hs2 ed;obtain⟨y,Hq⟩:=Qi (257+i1);have hqv:=Hq.out;have v1:IntKind.i64.wrap ((257:Int)+(i1:Int))=(y:Int):=(by rw[IntKind.wrap_i64];omega);rw[hqv] at el;have hy1:y<286:=(by omega);have hy2:y2<30:=hs2;obtain⟨z1,Hz1⟩:=Qi (n-(Yl false (i1:Nat)).1);obtain⟨z2,Hz2⟩:=Qi (dd-(Yl true (y2:Nat)).1);obtain⟨z3,Hz3⟩:=Qi ((Yl false (i1:Nat)).2);obtain⟨z4,Hz4⟩:=Qi ((Yl true (y2:Nat)).2);rw[Hz1.out,Hz3.out] at CS1;rw[Hz2.out,Hz4.out] at CS2;have Hel:=Qf el;have Hed:=Qf ed
     have hBgl:wr.heap.size ≠ gl:=by have:=Hglt.out;omega
     obtain⟨Bx,HBx⟩:=Qi (wr.heap.size);clear hok htb hqv e1 e2 ht0 h3 h258 hd1 hd32 el ed;go_wp2_with fail;obtain⟨W9,HW9⟩:=Qi ((wr.alloc (.cells #[.int .u8 (tb.toNat:Int),.int .i64 (n:Int),.int .i64 (dd:Int)] 119)));rw[HW9.out] at HA2 HD2 HB2 HT2 ht1 ⊢;rw[HBx.out] at HT2 ht1 hBgl ⊢;clear HW9 HBx ht1;refine(CS1.out _).mono ?_;rintro e wa ⟨rfl,na,rfl⟩;obtain⟨Wa,HWa⟩:=Qi (W9.drewN na);have HAa:Hid (Blk Wa gl 3 (Yg 286 (cntC LJ))):=(by rw[<-HWa.out];exact Qf (HA2.out.drewN na));have HDa:Hid (Blk Wa gd 3 (Yg 30 (cntC DJ))):=(by rw[<-HWa.out];exact Qf (HD2.out.drewN na));have HBa:Hid (Below w.heap.size w Wa):=(by rw[<-HWa.out];exact Qf (Yh HB2.out na));have HTa:Hid (Blk Wa Bx 119 #[.int .u8 (tb.toNat:Int),.int .i64 (n:Int),.int .i64 (dd:Int)]):=(by rw[<-HWa.out];exact Qf (HT2.out.drewN na));rw[HWa.out];clear HWa HA2 HD2 HB2 HT2;have hc1:Wa.cell? ⟨gl,y,none⟩=some (cntC LJ y):=(Blk.cell HAa.out y).trans (Yp _ _ _ hy1);have hf1:=Blk.frozen HAa.out y;have hset1:=X0 286 LJ y;unfold cntC at hc1;obtain⟨k1,Hk1⟩:=Qi ((LJ).count y);have hkl1:k1<=200000:=(by rw[<-Hk1.out];exact Qe List.count_le_length hSl1);rw[Hk1.out] at hc1 hset1;obtain⟨kk1,Hkk1⟩:=Qi (k1+1);have hkv1:=Hkk1.out;have wk1:IntKind.i64.wrap ((k1:Int)+1)=(kk1:Int):=(by rw[IntKind.wrap_i64];omega);rw[hkv1] at hset1;have hyI1:(y:Int)<286:=by omega
     have hAs:Blk (Wa.setCell ⟨gl,y,none⟩ (.int .i64 (kk1:Int))) gl 3 (Yg 286 (cntC (LSy (S.take (j+1))))):=by
      rw[HLs.out,Hel.out,<-hset1];exact Blk.set_ HAa.out y _
     have hDs:Blk (Wa.setCell ⟨gl,y,none⟩ (.int .i64 (kk1:Int))) gd 3 (Yg 30 (cntC DJ)):=Blk.far HDa.out (Ne.symm hne) _;have hTs:=Blk.far HTa.out (p:=⟨gl,y,none⟩) hBgl (.int .i64 (kk1:Int));have hBs:=HBa.out.setCell (p:=⟨gl,y,none⟩) hgl (.int .i64 (kk1:Int));have tc2:(Wa.setCell ⟨gl,y,none⟩ (.int .i64 (kk1:Int))).cell? ⟨Bx,2,none⟩=some (.int .i64 (dd:Int)):=hTs.cell 2;have HAs:=Qf hAs;have HDs2:=Qf hDs;have HBs:=Qf hBs;clear hset1 hkv1 hAs hDs hTs hBs HAa HDa HBa HTa;go_wp2_with fail;refine(CS2.out _).mono ?_;rintro e wb ⟨rfl,nb,rfl⟩;obtain⟨Wb,HWb⟩:=Qi ((Wa.setCell ⟨gl,y,none⟩ (.int .i64 (kk1:Int))).drewN nb);have HAb:Hid (Blk Wb gl 3 (Yg 286 (cntC (LSy (S.take (j+1)))))):=(by rw[<-HWb.out];exact Qf (HAs.out.drewN nb));have HDb:Hid (Blk Wb gd 3 (Yg 30 (cntC DJ))):=(by rw[<-HWb.out];exact Qf (HDs2.out.drewN nb));have HBb:Hid (Below w.heap.size w Wb):=(by rw[<-HWb.out];exact Qf (Yh HBs.out nb));rw[HWb.out];clear HWb HAs HDs2 HBs tc2;have hc2:Wb.cell? ⟨gd,y2,none⟩=some (cntC DJ y2):=(Blk.cell HDb.out y2).trans (Yp _ _ _ hy2);have hf2:=Blk.frozen HDb.out y2;have hset2:=X0 30 DJ y2;unfold cntC at hc2;obtain⟨k2,Hk2⟩:=Qi ((DJ).count y2);have hkl2:k2<=200000:=(by rw[<-Hk2.out];exact Qe List.count_le_length hSl2);rw[Hk2.out] at hc2 hset2;obtain⟨kk2,Hkk2⟩:=Qi (k2+1);have hkv2:=Hkk2.out;have wk2:IntKind.i64.wrap ((k2:Int)+1)=(kk2:Int):=(by rw[IntKind.wrap_i64];omega);rw[hkv2] at hset2;have hyI2:(y2:Int)<30:=by omega
     have HD3:Hid (∀m,Blk ((Wb.setCell ⟨gd,y2,none⟩ (.int .i64 (kk2:Int))).drewN m) gd 3 (Yg 30 (cntC (DSy (S.take (j+1)))))):=fun m=>by
      rw[HDs.out,Hed.out,<-hset2];exact Blk.set_ HDb.out y2 _
     have HA3:Hid (∀m,Blk ((Wb.setCell ⟨gd,y2,none⟩ (.int .i64 (kk2:Int))).drewN m) gl 3 (Yg 286 (cntC (LSy (S.take (j+1)))))):=fun m=>Blk.far HAb.out hne _;have HB3:Hid (∀m,Below w.heap.size w ((Wb.setCell ⟨gd,y2,none⟩ (.int .i64 (kk2:Int))).drewN m)):=fun m=>Yh (HBb.out.setCell hgd _) m;clear hset2 hkv2 HAb HDb HBb;go_wp2_with fail;go_roundw
     case rel=>exact⟨j+1,by omega,by go_num,HA3.out 0,HD3.out 0,HB3.out 0⟩
     simp[intOf];omega
   obtain rfl:j=M:=by omega
   have dj:decide ((j:Int)<(j:Int))=false:=Qh (by omega);have hfull:S.take j=S:=by rw[List.take_of_length_le (by rw[HM.out];exact Qa _)]
   rw[hfull] at HA HD;clear hfull;go_wp2_with fail;go_ret2;exact⟨gl,gd,rfl,hgl,hgd,HA.out,HD.out,HB.out⟩
 have hQ1:=(Blk.new w 3 f2).alloc (.cells f1 3);have hQ2:=Blk.new (w.alloc (.cells f2 3)) 3 f1;rw[Vm] at hQ2;have hbb:Below w.heap.size w ((w.alloc (.cells f2 3)).alloc (.cells f1 3)).drew:=(((Below.refl w.heap.size w).alloc (Qa _) (.cells f2 3)).alloc (by simp) (.cells f1 3)).drew;have hXA:Blk ((w.alloc (.cells f2 3)).alloc (.cells f1 3)).drew (w.heap.size+1) 3 f1:=hQ2;have hXB:Blk ((w.alloc (.cells f2 3)).alloc (.cells f1 3)).drew (w.heap.size) 3 f2:=hQ1;obtain⟨gl,HPA⟩:=Qi (w.heap.size+1);obtain⟨gd,HPB⟩:=Qi (w.heap.size);obtain⟨w1,HW4⟩:=Qi (((w.alloc (.cells f2 3)).alloc (.cells f1 3)).drew);rw[HW4.out] at hbb hXA hXB ⊢
 have hne:gl ≠ gd:=by have:=HPA.out;have:=HPB.out;omega
 have hgl:w.heap.size<=gl:=by have:=HPA.out;omega
 have hgd:w.heap.size<=gd:=by have:=HPB.out;omega
 rw[HPA.out] at hXA ⊢;rw[HPB.out] at hXB ⊢;clear hQ1 hQ2 HPA HPB HW4;have hc0:w1.cell? ⟨gl,256,none⟩=some (.int .i64 0):=(Blk.cell hXA 256).trans (by rw[<-Hf1.out];exact Yp _ _ _ (by decide));have hf0:=Blk.frozen hXA 256
 have hset0:f1.setIfInBounds 256 (.int .i64 1)=Yg 286 (cntC (LSy (S.take 0))):=by
  rw[<-Hf1.out,YA];refine Ys _ _ _ fun i _=>?_;unfold cntC LSy;by_cases e:i=256
  . subst e;rw[if_pos rfl];rfl
  rw[if_neg e,List.take_zero];have:(256::List.flatMap litS []).count i=0:=by rw[List.count_eq_zero];simp;exact e
  rw[this];rfl
 have HA0:Hid (Blk (w1.setCell ⟨gl,256,none⟩ (.int .i64 1)) gl 3 (Yg 286 (cntC (LSy (S.take 0))))):=by show Blk _ _ _ _;rw[<-hset0];exact Blk.set_ hXA 256 _
 have HD0:Hid (Blk (w1.setCell ⟨gl,256,none⟩ (.int .i64 1)) gd 3 (Yg 30 (cntC (DSy (S.take 0))))):=by
  show Blk _ _ _ _
  have e:Yg 30 (cntC (DSy (S.take 0)))=f2:=by
   rw[<-Hf2.out]
   exact Ys _ _ _ fun i _=>by unfold cntC DSy;rw[List.take_zero];rfl
  rw[e];exact Blk.far hXB (Ne.symm hne) _
 have HB0:=Qf (hbb.setCell (p:=⟨gl,256,none⟩) hgl (.int .i64 1));clear hset0 hXA hXB hbb;go_wp2_with fail
 go_loopw [17] (fun j_ wr=>∃j:Nat,j<=M/\j_=.int .i64 (j:Int)/\Hid (Blk wr gl 3 (Yg 286 (cntC (LSy (S.take j)))))/\Hid (Blk wr gd 3 (Yg 30 (cntC (DSy (S.take j)))))/\Hid (Below w.heap.size w wr)) (fun j _=>M-(intOf j).toNat)
 case atStart=>exact⟨0,Nat.zero_le _,rfl,HA0,HD0,HB0⟩
 clear HA0 HD0 HB0 hc0 hf0;obtain⟨j,hj,rfl,HA,HD,HB⟩:=hrel;by_cases hlt:j<M
 . have dj:decide ((j:Int)<(M:Int))=true:=Qg (by omega)
   have hlI:(j:Int)<(M:Int):=by omega
   have hjS:j<S.length:=by rw[HM.out];exact hlt
   obtain⟨b,off,rfl,_,c0,c1,c2⟩:=(HR.out.below HB.out (Qa _)).get j hjS;have hok:=Ht.out (tk S j) (by rw[J2 hjS];exact List.getElem_mem _);have hLs:=Yfx S j hjS;have hDs:=Yfy S j hjS;obtain⟨⟨tb,tl,td⟩,Htt⟩:∃R,Hid (tk S j=R):=⟨_,Qf (Eq.refl _)⟩;rw[Htt.out] at c0 c1 c2 hok hLs hDs;dsimp only at c0 c1 c2;obtain⟨LJ,HLJ⟩:=Qi (LSy (S.take j));obtain⟨DJ,HDJ⟩:=Qi (DSy (S.take j));have hSl1:LJ.length<=200000:=by rw[<-HLJ.out,Yeq,List.length_take];omega
   have hSl2:DJ.length<=200000:=by rw[<-HDJ.out];exact Qe (Yer _) (by rw[List.length_take];omega)
   rw[HLJ.out] at HA hLs;rw[HDJ.out] at HD hDs;have hBA:=Blk.new wr 119 #[.int .u8 (tb.toNat:Int),.int .i64 tl,.int .i64 td];have hal:=(Below.refl wr.heap.size wr).alloc (Qa _) (.cells #[.int .u8 (tb.toNat:Int),.int .i64 tl,.int .i64 td] 119);have HA2:=Qf (HA.out.alloc (.cells #[.int .u8 (tb.toNat:Int),.int .i64 tl,.int .i64 td] 119));have HD2:=Qf (HD.out.alloc (.cells #[.int .u8 (tb.toNat:Int),.int .i64 tl,.int .i64 td] 119));have HB2:=Qf (HB.out.trans (hal.mono HB.out.size));have ht0:(wr.alloc (.cells #[.int .u8 (tb.toNat:Int),.int .i64 tl,.int .i64 td] 119)).cell? ⟨wr.heap.size,0,none⟩=some (.int .u8 (tb.toNat:Int)):=hBA.cell 0;have ht1:(wr.alloc (.cells #[.int .u8 (tb.toNat:Int),.int .i64 tl,.int .i64 td] 119)).cell? ⟨wr.heap.size,1,none⟩=some (.int .i64 tl):=hBA.cell 1;have HT2:=Qf hBA;have hbyte:=tb.toNat_lt;have HLs:=Qf hLs;have HDs:=Qf hDs;have Hglt:=Qf (show gl<wr.heap.size from HA.out.lt);clear hBA hal hLs hDs HA HD HB;by_cases hl0:tl=0
   . subst hl0
     have d1:((0:Int)==0)=true:=rfl;obtain⟨y,Hy⟩:=Qi (tb.toNat);rw[Hy.out] at c0 ht0 ht1 hbyte HA2 HD2 HB2 HT2;have hy1:y<286:=(by omega);have hc1:(wr.alloc (.cells #[.int .u8 (y:Int),.int .i64 0,.int .i64 td] 119)).cell? ⟨gl,y,none⟩=some (cntC LJ y):=(Blk.cell HA2.out y).trans (Yp _ _ _ hy1);have hf1:=Blk.frozen HA2.out y;have hset1:=X0 286 LJ y;unfold cntC at hc1;obtain⟨k1,Hk1⟩:=Qi ((LJ).count y);have hkl1:k1<=200000:=(by rw[<-Hk1.out];exact Qe List.count_le_length hSl1);rw[Hk1.out] at hc1 hset1;obtain⟨kk1,Hkk1⟩:=Qi (k1+1);have hkv1:=Hkk1.out;have wk1:IntKind.i64.wrap ((k1:Int)+1)=(kk1:Int):=(by rw[IntKind.wrap_i64];omega);rw[hkv1] at hset1;have hyI1:(y:Int)<286:=by omega
     have HA3:Hid (∀m,Blk (((wr.alloc (.cells #[.int .u8 (y:Int),.int .i64 0,.int .i64 td] 119)).setCell ⟨gl,y,none⟩ (.int .i64 (kk1:Int))).drewN m) gl 3 (Yg 286 (cntC (LSy (S.take (j+1)))))):=fun m=>by
      have e:litS ⟨tb,0,td⟩=[y]:=by show[tb.toNat]=_;rw[Hy.out]
      rw[HLs.out,e,<-hset1];exact Blk.set_ HA2.out y _
     have HD3:Hid (∀m,Blk (((wr.alloc (.cells #[.int .u8 (y:Int),.int .i64 0,.int .i64 td] 119)).setCell ⟨gl,y,none⟩ (.int .i64 (kk1:Int))).drewN m) gd 3 (Yg 30 (cntC (DSy (S.take (j+1)))))):=fun m=>by
      have e:dstS ⟨tb,0,td⟩=[]:=rfl;rw[HDs.out,e,List.append_nil];exact Blk.far HD2.out (Ne.symm hne) _
     have HB3:Hid (∀m,Below w.heap.size w (((wr.alloc (.cells #[.int .u8 (y:Int),.int .i64 0,.int .i64 td] 119)).setCell ⟨gl,y,none⟩ (.int .i64 (kk1:Int))).drewN m)):=fun m=>Yh (HB2.out.setCell hgl _) m;clear hset1 hkv1 hok HA2 HD2 HB2 HT2;go_wp2_with fail;go_roundw
     case rel=>exact⟨j+1,by omega,by go_num,HA3.out 0,HD3.out 0,HB3.out 0⟩
     simp[intOf];omega
   have d1:(tl==0)=false:=by simp;exact hl0
   obtain⟨_,htb,h3,h258,hd1,hd32,hs1,hs2⟩:=hok.resolve_left fun h=>hl0 h.1;obtain⟨n,rfl⟩:∃n:Nat,tl=(n:Int):=⟨tl.toNat,by dsimp only at h3;omega⟩;obtain⟨dd,rfl⟩:∃n:Nat,td=(n:Int):=⟨td.toNat,by dsimp only at hd1;omega⟩;dsimp only at h3 h258 hd1 hd32;have CS1:=Qf (fun W=>XB false n ⟨by decide,by show 3<=n;omega⟩ (by omega) W);have CS2:=Qf (fun W=>XB true dd ⟨by decide,by show 1<=dd;omega⟩ (by omega) W);have e1:symF false n 30=lsym ⟨tb,(n:Int),(dd:Int)⟩:=YdD n;have e2:symF true dd 30=dsym ⟨tb,(n:Int),(dd:Int)⟩:=rfl;rw[e1] at CS1;rw[e2] at CS2;have el:litS ⟨tb,(n:Int),(dd:Int)⟩=[257+lsym ⟨tb,(n:Int),(dd:Int)⟩]:=by unfold litS;rw[if_neg (by show ¬(n:Int)=0;omega)]
   have ed:dstS ⟨tb,(n:Int),(dd:Int)⟩=[dsym ⟨tb,(n:Int),(dd:Int)⟩]:=by unfold dstS;rw[if_neg (by show ¬(n:Int)=0;omega)]
   obtain⟨i1,Hi1⟩:=Qi (lsym ⟨tb,(n:Int),(dd:Int)⟩);obtain⟨y2,Hi2⟩:=Qi (dsym ⟨tb,(n:Int),(dd:Int)⟩);rw[Hi1.out] at CS1 hs1 el;rw[Hi2.out] at CS2 hs2 ed;obtain⟨y,Hq⟩:=Qi (257+i1);have hqv:=Hq.out;have v1:IntKind.i64.wrap ((257:Int)+(i1:Int))=(y:Int):=by rw[IntKind.wrap_i64];omega
   rw[hqv] at el;have hy1:y<286:=by omega
   have hy2:y2<30:=hs2;obtain⟨z1,Hz1⟩:=Qi (n-(Yl false (i1:Nat)).1);obtain⟨z2,Hz2⟩:=Qi (dd-(Yl true (y2:Nat)).1);obtain⟨z3,Hz3⟩:=Qi ((Yl false (i1:Nat)).2);obtain⟨z4,Hz4⟩:=Qi ((Yl true (y2:Nat)).2);rw[Hz1.out,Hz3.out] at CS1;rw[Hz2.out,Hz4.out] at CS2;have Hel:=Qf el;have Hed:=Qf ed
   have hBgl:wr.heap.size ≠ gl:=by have:=Hglt.out;omega
   obtain⟨Bx,HBx⟩:=Qi (wr.heap.size);clear hok htb hqv e1 e2 ht0 h3 h258 hd1 hd32 el ed;go_wp2_with fail;obtain⟨W9,HW9⟩:=Qi ((wr.alloc (.cells #[.int .u8 (tb.toNat:Int),.int .i64 (n:Int),.int .i64 (dd:Int)] 119)));rw[HW9.out] at HA2 HD2 HB2 HT2 ht1 ⊢;rw[HBx.out] at HT2 ht1 hBgl ⊢;clear HW9 HBx ht1;refine(CS1.out _).mono ?_;rintro e wa ⟨rfl,na,rfl⟩;obtain⟨Wa,HWa⟩:=Qi (W9.drewN na);have HAa:Hid (Blk Wa gl 3 (Yg 286 (cntC LJ))):=by rw[<-HWa.out];exact Qf (HA2.out.drewN na)
   have HDa:Hid (Blk Wa gd 3 (Yg 30 (cntC DJ))):=by rw[<-HWa.out];exact Qf (HD2.out.drewN na)
   have HBa:Hid (Below w.heap.size w Wa):=by rw[<-HWa.out];exact Qf (Yh HB2.out na)
   have HTa:Hid (Blk Wa Bx 119 #[.int .u8 (tb.toNat:Int),.int .i64 (n:Int),.int .i64 (dd:Int)]):=by rw[<-HWa.out];exact Qf (HT2.out.drewN na)
   rw[HWa.out];clear HWa HA2 HD2 HB2 HT2;have hc1:Wa.cell? ⟨gl,y,none⟩=some (cntC LJ y):=(Blk.cell HAa.out y).trans (Yp _ _ _ hy1);have hf1:=Blk.frozen HAa.out y;have hset1:=X0 286 LJ y;unfold cntC at hc1;obtain⟨k1,Hk1⟩:=Qi ((LJ).count y);have hkl1:k1<=200000:=by rw[<-Hk1.out];exact Qe List.count_le_length hSl1
   rw[Hk1.out] at hc1 hset1;obtain⟨kk1,Hkk1⟩:=Qi (k1+1);have hkv1:=Hkk1.out;have wk1:IntKind.i64.wrap ((k1:Int)+1)=(kk1:Int):=by rw[IntKind.wrap_i64];omega
   rw[hkv1] at hset1;have hyI1:(y:Int)<286:=by omega
   have hAs:Blk (Wa.setCell ⟨gl,y,none⟩ (.int .i64 (kk1:Int))) gl 3 (Yg 286 (cntC (LSy (S.take (j+1))))):=by
    rw[HLs.out,Hel.out,<-hset1];exact Blk.set_ HAa.out y _
   have hDs:Blk (Wa.setCell ⟨gl,y,none⟩ (.int .i64 (kk1:Int))) gd 3 (Yg 30 (cntC DJ)):=Blk.far HDa.out (Ne.symm hne) _;have hTs:=Blk.far HTa.out (p:=⟨gl,y,none⟩) hBgl (.int .i64 (kk1:Int));have hBs:=HBa.out.setCell (p:=⟨gl,y,none⟩) hgl (.int .i64 (kk1:Int));have tc2:(Wa.setCell ⟨gl,y,none⟩ (.int .i64 (kk1:Int))).cell? ⟨Bx,2,none⟩=some (.int .i64 (dd:Int)):=hTs.cell 2;have HAs:=Qf hAs;have HDs2:=Qf hDs;have HBs:=Qf hBs;clear hset1 hkv1 hAs hDs hTs hBs HAa HDa HBa HTa;go_wp2_with fail;refine(CS2.out _).mono ?_;rintro e wb ⟨rfl,nb,rfl⟩;obtain⟨Wb,HWb⟩:=Qi ((Wa.setCell ⟨gl,y,none⟩ (.int .i64 (kk1:Int))).drewN nb);have HAb:Hid (Blk Wb gl 3 (Yg 286 (cntC (LSy (S.take (j+1)))))):=by rw[<-HWb.out];exact Qf (HAs.out.drewN nb)
   have HDb:Hid (Blk Wb gd 3 (Yg 30 (cntC DJ))):=by rw[<-HWb.out];exact Qf (HDs2.out.drewN nb)
   have HBb:Hid (Below w.heap.size w Wb):=by rw[<-HWb.out];exact Qf (Yh HBs.out nb)
   rw[HWb.out];clear HWb HAs HDs2 HBs tc2;have hc2:Wb.cell? ⟨gd,y2,none⟩=some (cntC DJ y2):=(Blk.cell HDb.out y2).trans (Yp _ _ _ hy2);have hf2:=Blk.frozen HDb.out y2;have hset2:=X0 30 DJ y2;unfold cntC at hc2;obtain⟨k2,Hk2⟩:=Qi ((DJ).count y2);have hkl2:k2<=200000:=by rw[<-Hk2.out];exact Qe List.count_le_length hSl2
   rw[Hk2.out] at hc2 hset2;obtain⟨kk2,Hkk2⟩:=Qi (k2+1);have hkv2:=Hkk2.out;have wk2:IntKind.i64.wrap ((k2:Int)+1)=(kk2:Int):=by rw[IntKind.wrap_i64];omega
   rw[hkv2] at hset2;have hyI2:(y2:Int)<30:=by omega
   have HD3:Hid (∀m,Blk ((Wb.setCell ⟨gd,y2,none⟩ (.int .i64 (kk2:Int))).drewN m) gd 3 (Yg 30 (cntC (DSy (S.take (j+1)))))):=fun m=>by
    rw[HDs.out,Hed.out,<-hset2];exact Blk.set_ HDb.out y2 _
   have HA3:Hid (∀m,Blk ((Wb.setCell ⟨gd,y2,none⟩ (.int .i64 (kk2:Int))).drewN m) gl 3 (Yg 286 (cntC (LSy (S.take (j+1)))))):=fun m=>Blk.far HAb.out hne _;have HB3:Hid (∀m,Below w.heap.size w ((Wb.setCell ⟨gd,y2,none⟩ (.int .i64 (kk2:Int))).drewN m)):=fun m=>Yh (HBb.out.setCell hgd _) m;clear hset2 hkv2 HAb HDb HBb;go_wp2_with fail;go_roundw
   case rel=>exact⟨j+1,by omega,by go_num,HA3.out 0,HD3.out 0,HB3.out 0⟩
   simp[intOf];omega
 obtain rfl:j=M:=by omega
 have dj:decide ((j:Int)<(j:Int))=false:=Qh (by omega);have hfull:S.take j=S:=by rw[List.take_of_length_le (by rw[HM.out];exact Qa _)]
 rw[hfull] at HA HD;clear hfull;go_wp2_with fail;go_ret2;exact⟨gl,gd,rfl,hgl,hgd,HA.out,HD.out,HB.out⟩
theorem Yb4 (g0 n cap:Nat) (cnt:Nat->Int) (hn:n<=320) (most:Nat) (h1:1<=most) (h15:most<=15) (hc:Ydr cnt n) (hb:(Yn cnt n).length<=2^most) (w:World) (hr:IRow w (some ⟨g0,0,none⟩) n cnt) :
 Calls Tryz.prog 91 #[.slice (some ⟨g0,0,none⟩) n cap,.int .i64 (most:Int)] w fun e w'=>∃g,e=.returned (.tuple #[.slice (some ⟨g,0,none⟩) n n,.int .i64 0])/\w.heap.size<=g/\Blk w' g 3 (Yg n fun i=>.int .i64 ((finL cnt n most i:Nat):Int))/\Below w.heap.size w w':=by
 refine(YkC (some ⟨g0,0,none⟩) n cap cnt (by omega) (most:Int) w hr).mono ?_;rintro e w' ⟨hbl,⟨h,_⟩|⟨_,h,_⟩|⟨_,_,_,h,_⟩|⟨_,_,_,_,h,_⟩|⟨_,_,_,_,_,g,rfl,hg,hB⟩⟩
 . omega
 . omega
 . exact absurd hc h
 . rw[Int.toNat_natCast] at h;omega
 rw[Int.toNat_natCast] at hB;exact⟨g,rfl,hg,hB,hbl⟩
theorem Yjb (g n:Nat) (L:Nat->Nat) (w:World) (h:Blk w g 3 (Yg n fun i=>.int .i64 ((L i:Nat):Int))):IRow w (some ⟨g,0,none⟩) n (fun i=>((L i:Nat):Int)):=
 .inr ⟨g,0,rfl,h.lt,fun i hi=>by rw[Nat.zero_add];exact(Blk.cell h i).trans (Yp _ _ _ hi)⟩
theorem YaH (m:Nat->Int) (n:Nat) (hn:n<=320) (h15:∀i,i<n->0<=m i/\m i<=15) (hf:Fits (parts (lens m) n) (YG (lens m) n)) (a:Option Addr) (cap:Nat) (w:World) (hr:IRow w a n m) :
 Calls Tryz.prog 63 #[.slice a n cap] w fun e w'=>∃g,e=.returned (.tuple #[.slice (some ⟨g,0,none⟩) n n,.int .i64 0])/\Blk w' g 163 (YC n (YD (lens m) n) (lens m))/\Below w.heap.size w w':=by
 refine(YaI a n cap m (by omega) w hr).mono ?_;rintro e w' ⟨hb,⟨h1,_⟩|⟨_,⟨i,h1,h2⟩,_⟩|⟨_,_,h1,_⟩|⟨_,_,_,v,rfl,g,rfl,hg,hB⟩⟩
 . omega
 . exact absurd (h15 i h1) h2
 . exact absurd hf h1
 exact⟨g,rfl,hB,hb⟩
def cn (X:List Nat) (i:Nat):Int:=((X.count i:Nat):Int)
theorem YmM (X:List Nat) (n:Nat) (h:X.length<=1000000):Ydr (cn X) n:=fun i _=>by
 unfold cn;have:X.count i<=X.length:=List.count_le_length;omega
theorem Yjd (X:List Nat) (i:Nat) (h:i ∈ X):0<cn X i:=by
 unfold cn;have:0<X.count i:=List.count_pos_iff.2 h;omega
def XG (f:Nat->Nat) (low:Nat):Nat->Nat
 |0=>0
 |n+1=>if low<n+1/\f n=0 then XG f low n else n+1
theorem J0 (f:Nat->Nat) (low:Nat):∀n,low<=n->low<=XG f low n/\XG f low n<=n:=by
 intro n
 induction n with
 |zero=>intro h;exact⟨h,Qa _⟩
 |succ n ih=>
  intro h;unfold XG;by_cases hc:low<n+1/\f n=0
  . rw[if_pos hc]
    have:=ih (by omega);omega
  rw[if_neg hc];omega
theorem U2 (f:Nat->Nat) (low:Nat):∀n i,XG f low n<=i->i<n->f i=0:=by
 intro n
 induction n with
 |zero=>intro i _ h;omega
 |succ n ih=>
  intro i h hi;unfold XG at h;by_cases hc:low<n+1/\f n=0
  . rw[if_pos hc] at h
    by_cases e:i=n
    . rw[e];exact hc.2
    exact ih i h (by omega)
  rw[if_neg hc] at h;omega
def aL (S:List Tok):Nat->Nat:=finL (cn (LSy S)) 286 15
def bL (S:List Tok):Nat->Nat:=finL (cn (DSy S)) 30 15
def nlS (S:List Tok):Nat:=XG (aL S) 257 286
def ndS (S:List Tok):Nat:=XG (bL S) 1 30
def lnS (S:List Tok):List Int:=(List.range (nlS S)).map (fun i=>((aL S i:Nat):Int))++(List.range (ndS S)).map (fun i=>((bL S i:Nat):Int))
def usS (S:List Tok):List Nat:=(Ye (lnS S) 0).map fun t=>t.sym.toNat
def kL (S:List Tok):Nat->Nat:=finL (cn (usS S)) 19 7
def ncS (S:List Tok):Nat:=XG (fun i=>kL S (ordL.getD i 0)) 4 19
theorem YaS (S:List Tok):LenOK (cn (LSy S)) 286 15 (aL S):=YiX (by decide) (by decide) (Qe (Kn _ _) (by decide))
theorem YaR (S:List Tok):LenOK (cn (DSy S)) 30 15 (bL S):=YiX (by decide) (by decide) (Qe (Kn _ _) (by decide))
theorem YaQ (S:List Tok):LenOK (cn (usS S)) 19 7 (kL S):=YiX (by decide) (by decide) (Qe (Kn _ _) (by decide))
theorem KN (S:List Tok):257<=nlS S/\nlS S<=286:=J0 _ _ _ (by decide)
theorem Jc (S:List Tok):1<=ndS S/\ndS S<=30:=J0 _ _ _ (by decide)
theorem Yij (S:List Tok):4<=ncS S/\ncS S<=19:=J0 _ _ _ (by decide)
theorem Yjt (S:List Tok) (i:Nat) (h:nlS S<=i):aL S i=0:=by
 by_cases hi:i<286
 . exact U2 _ _ _ i h hi
 exact(YaS S).zero i fun x=>hi x.1
theorem Yjq (S:List Tok) (i:Nat) (h:ndS S<=i):bL S i=0:=by
 by_cases hi:i<30
 . exact U2 _ _ _ i h hi
 exact(YaR S).zero i fun x=>hi x.1
theorem Yb2 (S:List Tok):(lnS S).length=nlS S+ndS S:=by simp[lnS]
theorem YcY (S:List Tok):(lnS S).length<=316:=by
 rw[Yb2];have:=KN S;have:=Jc S;omega
theorem Yng (A B:Nat->Nat) (n m:Nat):nL ((List.range n).map (fun i=>((A i:Nat):Int))++(List.range m).map (fun i=>((B i:Nat):Int)))=(List.range n).map A++(List.range m).map B:=by
 unfold nL;rw[List.map_append,List.map_map,List.map_map]
 have e:∀f:Nat->Nat,(Int.toNat ∘ fun i=>((f i:Nat):Int))=f:=fun f=>by funext i;exact Int.toNat_natCast _
 rw[e,e]
theorem Yil (S:List Tok):nL (lnS S)=(List.range (nlS S)).map (aL S)++(List.range (ndS S)).map (bL S):=Yng (aL S) (bL S) (nlS S) (ndS S)
theorem Ynj (A B:Nat->Nat) (n m:Nat) (hA:∀i,A i<=15) (hB:∀i,B i<=15) (i:Nat):0<=ln ((List.range n).map (fun i=>((A i:Nat):Int))++(List.range m).map (fun i=>((B i:Nat):Int))) i/\ln ((List.range n).map (fun i=>((A i:Nat):Int))++(List.range m).map (fun i=>((B i:Nat):Int))) i<=15:=by
 unfold ln;obtain⟨X,hX⟩:∃X,(List.range n).map (fun i=>((A i:Nat):Int))++(List.range m).map (fun i=>((B i:Nat):Int))=X:=⟨_,rfl⟩;rw[hX,List.getD_eq_getElem?_getD];by_cases h:i<X.length
 . have hm:X[i] ∈ X:=List.getElem_mem h
   rw[List.getElem?_eq_getElem h];obtain⟨y,hy⟩:∃y,X[i]=y:=⟨_,rfl⟩;rw[hy] at hm ⊢;show 0<=y/\y<=15;rw[<-hX] at hm;rcases List.mem_append.1 hm with h1|h1
   . obtain⟨j,_,rfl⟩:=List.mem_map.1 h1
     have:=hA j;omega
   obtain⟨j,_,rfl⟩:=List.mem_map.1 h1;have:=hB j;omega
 rw[List.getElem?_eq_none (by omega)];exact⟨Int.le_refl _,by decide⟩
theorem Ylm (S:List Tok) (i:Nat):0<=ln (lnS S) i/\ln (lnS S) i<=15:=Ynj (aL S) (bL S) (nlS S) (ndS S) (YaS S).le (YaR S).le i
theorem Jo (f:Nat->Nat) (n i:Nat):((List.range n).map f).getD i 0=if i<n then f i else 0:=by
 rw[List.getD_eq_getElem?_getD];by_cases h:i<n
 . rw[if_pos h,List.getElem?_eq_getElem (by simpa using h)]
   simp
 rw[if_neg h,List.getElem?_eq_none (by simpa using h)];rfl
theorem Yb3 (S:List Tok):litN (lnS S) (nlS S)=aL S:=by
 funext i;unfold litN lens lenF;rw[Int.toNat_natCast,Yil,List.take_left' (by simp),Jo];by_cases h:i<nlS S
 . rw[if_pos h]
 rw[if_neg h,Yjt S i (by omega)]
theorem Yef (S:List Tok):dstN (lnS S) (nlS S)=bL S:=by
 funext i;unfold dstN lens lenF;rw[Int.toNat_natCast,Yil,List.drop_left' (by simp),Jo];by_cases h:i<ndS S
 . rw[if_pos h]
 rw[if_neg h,Yjq S i (by omega)]
theorem YcO (L:Nat->Nat) (n:Nat):∀m,n<=m->(∀i,n<=i->i<m->L i=0)->parts L m=parts L n/\YG L m=YG L n:=by
 intro m
 induction m with
 |zero=>
  intro h _;have:n=0:=by omega
  subst this;exact⟨rfl,rfl⟩
 |succ m ih=>
  intro h hz;by_cases e:n=m+1
  . subst e;exact⟨rfl,rfl⟩
  obtain⟨h1,h2⟩:=ih (by omega) fun i a b=>hz i a (by omega);have h0:=hz m (by omega) (by omega);rw[Kg,KK,h1,h2,h0];exact⟨rfl,rfl⟩
theorem Yeo (S:List Tok):Fits (parts (aL S) (nlS S)) (YG (aL S) (nlS S)):=by
 obtain⟨h1,h2⟩:=YcO (aL S) (nlS S) 286 (KN S).2 fun i h _=>Yjt S i h;rw[<-h1,<-h2];exact Ji (YaS S)
theorem Yen (S:List Tok):Fits (parts (bL S) (ndS S)) (YG (bL S) (ndS S)):=by
 obtain⟨h1,h2⟩:=YcO (bL S) (ndS S) 30 (Jc S).2 fun i h _=>Yjq S i h;rw[<-h1,<-h2];exact Ji (YaR S)
theorem Yd1 (S:List Tok):Fits (parts (kL S) 19) (YG (kL S) 19):=Ji (YaQ S)
theorem Yfw (S:List Tok) (i:Nat) (h:i ∈ LSy S) (hi:i<286):0<aL S i/\i<nlS S:=by
 have h1:=(YaS S).pos i hi (Yjd _ _ h);refine⟨h1,?_⟩;rcases Nat.lt_or_ge i (nlS S) with h2|h2
 . exact h2
 rw[Yjt S i h2] at h1;omega
theorem Ylw (S:List Tok) (i:Nat) (h:i ∈ DSy S) (hi:i<30):0<bL S i/\i<ndS S:=by
 have h1:=(YaR S).pos i hi (Yjd _ _ h);refine⟨h1,?_⟩;rcases Nat.lt_or_ge i (ndS S) with h2|h2
 . exact h2
 rw[Yjq S i h2] at h1;omega
theorem YfQ (L:List Int) (hL:∀i,0<=ln L i/\ln L i<=15) (i:Nat):0<=(Yz L i).1.sym/\(Yz L i).1.sym<=18/\0<=(Yz L i).1.more/\(Yz L i).1.more<=127:=by
 have:=hL i;unfold Yz;split
 . dsimp only;omega
 split
 . dsimp only;omega
 split
 . dsimp only;omega
 dsimp only;omega
theorem YbI (L:List Int) (hL:∀i,0<=ln L i/\ln L i<=15) (k:Nat):∀i,L.length-i<=k->∀t ∈ Ye L i,0<=t.sym/\t.sym<=18/\0<=t.more/\t.more<=127:=by
 induction k with
 |zero=>intro i hi t ht;rw[VE L i (by omega)] at ht;cases ht
 |succ k ih=>
  intro i hi t ht;by_cases h:i<L.length
  . rw[Xl L i h] at ht
    rcases List.mem_cons.1 ht with rfl|ht
    . exact YfQ L hL i
    have:=K0 L i;exact ih _ (by omega) t ht
  rw[VE L i h] at ht;cases ht
theorem Ks (L:List Int) (k:Nat):∀i,L.length-i<=k->(Ye L i).length<=k:=by
 induction k with
 |zero=>intro i hi;rw[VE L i (by omega)];exact Qa _
 |succ k ih=>
  intro i hi;by_cases h:i<L.length
  . rw[Xl L i h,List.length_cons]
    have:=K0 L i;have:=ih (i+(Yz L i).2) (by omega);omega
  rw[VE L i h];simp
theorem YlA (S:List Tok):(usS S).length<=316:=by
 unfold usS;rw[List.length_map];exact Qe (Ks (lnS S) 316 0 (by have:=YcY S;omega)) (Qa _)
theorem Yle (S:List Tok):∀t ∈ Ye (lnS S) 0,0<=t.sym/\t.sym<=18/\0<=t.more/\t.more<=127:=YbI _ (Ylm S) 316 0 (by have:=YcY S;omega)
theorem Ylo (S:List Tok):∀t ∈ Ye (lnS S) 0,0<kL S t.sym.toNat:=fun t ht=>
 (YaQ S).pos _ (by have:=Yle S t ht;omega) (Yjd _ _ (List.mem_map.2 ⟨t,ht,rfl⟩))
theorem Yl8:∀i,i<19->∃j,j<19/\ordL.getD j 0=i:=by decide
theorem YnG (S:List Tok) (i:Nat) (h:kL S i ≠ 0):i ∈ ordL.take (ncS S):=by
 have hi:i<19:=by
  rcases Nat.lt_or_ge i 19 with h1|h1
  . exact h1
  exact absurd ((YaQ S).zero i fun x=>by omega) h
 obtain⟨j,hj,rfl⟩:=Yl8 i hi
 have hj2:j<ncS S:=by
  rcases Nat.lt_or_ge j (ncS S) with h1|h1
  . exact h1
  exact absurd (U2 (fun i=>kL S (ordL.getD i 0)) 4 19 j h1 hj) h
 rw[List.getD_eq_getElem?_getD,List.getElem?_eq_getElem (show j<ordL.length from hj)];rw[List.mem_iff_getElem];exact⟨j,by rw[List.length_take];show j<min _ 19;omega,by rw[List.getElem_take];rfl⟩
noncomputable def dynS (S:List Tok):List (Nat × Nat):=dynE (nlS S) (ndS S) (ncS S) (kL S) (lnS S) S
theorem Yit (S:List Tok) (t:Tok) (ht:t ∈ S):(if t.l=0 then t.b.toNat else 257+lsym t) ∈ LSy S:=by
 unfold LSy;refine List.mem_cons_of_mem _ (List.mem_flatMap.2 ⟨t,ht,?_⟩);unfold litS;exact List.mem_cons_self ..
theorem Yiu (S:List Tok) (t:Tok) (ht:t ∈ S) (h:t.l ≠ 0):dsym t ∈ DSy S:=by
 unfold DSy;refine List.mem_flatMap.2 ⟨t,ht,?_⟩;unfold dstS;rw[if_neg h];exact List.mem_cons_self ..
theorem YjK (S:List Tok) (hS:∀t ∈ S,TokW 286 30 t):∀t ∈ S,TokW (nlS S) (ndS S) t:=by
 intro t ht;have hm:=Yit S t ht;rcases hS t ht with⟨a,b,c⟩|⟨a,b,c,d,e,f,g,i⟩
 . rw[if_pos a] at hm
   have:=KN S;have:=t.b.toNat_lt;exact .inl ⟨a,b,by omega⟩
 rw[if_neg a] at hm;exact .inr ⟨a,b,c,d,e,f,(Yfw S _ hm g).2,(Ylw S _ (Yiu S t ht a) i).2⟩
theorem Ynr (S:List Tok) (most:Nat) (T:List UInt8) (hS:∀t ∈ S,TokW 286 30 t) (h:texp (most:Int) [] S=(T,0)) :
 Kl (encB (dynS S)) most=.ok ([⟨2,[],S⟩],⟨0,8*((encN (dynS S)+7)/8)-encN (dynS S),T.length⟩):=by
 have h256:=Yfw S 256 (List.mem_cons_self ..) (by decide);refine YkQ (nlS S) (ndS S) (ncS S) (kL S) (lnS S) S most T (KN S) (Jc S) (Yij S) (Yb2 S) (YaQ S).le (YnG S) (Yd1 S) (Ylm S) (Ylo S) ?_ ?_ ?_ ?_ ?_ h
 . rw[Yil,List.getD_eq_getElem?_getD,List.getElem?_append_left (by simpa using h256.2),<-List.getD_eq_getElem?_getD,Jo,if_pos h256.2]
   omega
 . rw[Yb3];exact Yeo S
 . rw[Yef];exact Yen S
 . rw[Yb3];exact h256.1
 intro t ht;have hm:=Yit S t ht;rw[Yb3,Yef];unfold KW;rcases hS t ht with⟨a,b,c⟩|⟨a,b,c,d,e,f,g,i⟩
 . rw[if_pos a] at hm ⊢
   exact⟨(Yfw S _ hm c).1,fun x=>absurd a x⟩
 rw[if_neg a] at hm ⊢;have h1:=Yfw S _ hm g;have h2:=Ylw S _ (Yiu S t ht a) i;exact⟨⟨h1.1,h2.1⟩,fun _=>⟨h1.2,h2.2⟩⟩
def sp (S:List Stp) (i:Nat):Stp:=S.getD i ⟨0,0⟩
theorem YfR (S:List Stp) (i:Nat) (hi:i<S.length):(YN S)[i*2]?=some (.int .i64 (sp S i).sym)/\(YN S)[i*2+1]?=some (.int .i64 (sp S i).more):=by
 induction S generalizing i with
 |nil=>cases hi
 |cons x r ih=>
  have e:YN (x::r)=.int .i64 x.sym::.int .i64 x.more::YN r:=rfl;rw[e]
  cases i with
  |zero=>exact⟨rfl,rfl⟩
  |succ i=>
   rw[List.length_cons] at hi;have:=ih i (by omega);rw[show(i+1)*2=i*2+1+1 by omega];simp only[List.getElem?_cons_succ];exact this
end Go.Proofs.YthehocmfpoglgaaGreat
