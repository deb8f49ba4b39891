/- The library's insertion sort over pairs. Conditions: rows of pairs as they stand in memory, weights within bounds. -/
import Derived.Test.YthehocmfpoglgaaGreatJjfkkml
namespace Go.Proofs.YthehocmfpoglgaaGreat
open Go.RowKit
set_option maxRecDepth 100000
def pk (x:Pr):Int:=x.k
theorem Ymh (y:Nat->Pr) (a i j:Nat) (ha:a<=j) (hj:j<=i) (hs:Srt pk (seg y a i)) (h1:a<j->(y (j-1)).k<=(y i).k) (h2:∀p,j<=p->p<i->(y i).k<(y p).k):seg (mvL y i j) a (i+1)=mrg pk (seg y a i) [y i]:=by
 have e1:seg (mvL y i j) a j=seg y a j:=Y7 _ _ _ _ _ _ rfl fun k hk=>by unfold mvL;rw[if_neg (by omega),if_neg (by omega)]
 have e2:seg (mvL y i j) j (j+1)=[y i]:=by rw[Kt];unfold mvL;rw[if_pos rfl]
 have e3:seg (mvL y i j) (j+1) (i+1)=seg y j i:=Y7 _ _ _ _ _ _ (by omega) fun k hk=>by
  unfold mvL;rw[if_neg (by omega),if_pos (by omega)]
  congr 1
  omega
 rw[Vu _ a j (i+1) ha (by omega),Vu _ j (j+1) (i+1) (by omega) (by omega),e1,e2,e3,Vu y a j i ha hj];refine(Je pk _ _ _ (fun z hz=>?_) (fun z hz=>?_)).symm
 . obtain⟨p,h3,h4,rfl⟩:=X4 _ _ _ _ hz
   have h5:=h1 (by omega);by_cases e:p=j-1
   . rw[e];exact h5
   have:=(XI pk y a i).1 hs p (j-1) h3 (by omega) (by omega);exact Int.le_trans this h5
 obtain⟨p,h3,h4,rfl⟩:=X4 _ _ _ _ hz;exact h2 p h3 h4
theorem KB.mvL {x:Nat->Pr} {C:Nat} (h:KB x C) (i j:Nat) (hi:i<C):KB (Go.Proofs.YthehocmfpoglgaaGreat.mvL x i j) C:=fun p hp=>by
 unfold Go.Proofs.YthehocmfpoglgaaGreat.mvL;split
 . exact h i hi
 split
 . exact h (p-1) (by omega)
 exact h p hp
set_option maxHeartbeats 16000000 in
theorem YiK (g C N cap a b:Nat) (hab:a<=b) (hb:b<=N) (hN:N<=C) (hC:C<=1000000) (x:Nat->Pr) (hk:KB x C) (w:World) (hx:PB w g C x) :
 Calls Tryz.prog 124 #[.slice (some ⟨g,0,none⟩) N cap,.int .i64 (a:Int),.int .i64 (b:Int),.func (.func 112) #[] #[]] w fun e w'=>e=.returned (.tuple #[])/\Ch1 w w' g/\
  ∃y,PB w' g C y/\KB y C/\seg y a b=Yw pk (seg x a b)/\∀p,(p<a\/b<=p)->y p=x p:=by
 obtain⟨x0,HX0⟩:∃x0:Nat->Pr,Hid (PB w g C x0/\KB x0 C/\seg x0 a (a+1)=Yw pk (seg x a (a+1))/\∀p,(p<a\/a+1<=p)->x0 p=x p):=⟨x,hx,hk,by rw[UJ];rw[Kt];exact List.pairwise_cons.2 ⟨fun z hz=>(by cases hz),List.Pairwise.nil⟩,fun _ _=>rfl⟩;have HG0:=Qf (Ch1.refl w g);have hx0:=Qf hx;have hk0:=Qf hk;clear hx hk;go_enter Tryz.func124,Tryz.ntmps124;go_wp2_with fail
 go_loopw [8] (fun i_ wr=>∃(i:Nat) (y:Nat->Pr),a+1<=i/\(i<=b\/i=a+1)/\i_=.int .i64 (i:Int)/\Hid (PB wr g C y/\KB y C/\seg y a i=Yw pk (seg x a i)/\∀p,(p<a\/i<=p)->y p=x p)/\Hid (Ch1 w wr g)) (fun i _=>b-(intOf i).toNat)
 case atStart=>exact⟨a+1,x0,by omega,.inr rfl,by go_num,HX0,HG0⟩
 clear HX0 HG0;obtain⟨i,y,hi1,hi2,rfl,HY,HG⟩:=hrel;by_cases hlt:i<b
 . have d1:decide ((i:Int)<(b:Int))=true:=Qg (by omega)
   have HM0:Hid (PB wr g C (mvL y i i)/\∀p,i<=p->p<i->(y i).k<(y p).k):=⟨by rw[YeX];exact HY.out.1,fun p h1 h2=>by omega⟩;go_wp2_with fail
   go_loopw [9] (fun j_ wx=>∃j:Nat,a<=j/\j<=i/\j_=.int .i64 (j:Int)/\Hid (PB wx g C (mvL y i j)/\∀p,j<=p->p<i->(y i).k<(y p).k)/\Hid (Ch1 w wx g)) (fun j _=>(intOf j).toNat)
   case atStart=>exact⟨i,by omega,Qa _,rfl,HM0,HG⟩
   clear HM0 HG;obtain⟨j,hj1,hj2,rfl,HM,HG⟩:=hrel
   have Hfin:Hid ((a<j->(y (j-1)).k<=(y i).k)->KB (mvL y i j) C/\seg (mvL y i j) a (i+1)=Yw pk (seg x a (i+1))/\∀p,(p<a\/i+1<=p)->mvL y i j p=x p):=by
    intro h1;obtain⟨hy1,hy2,hy3,hy4⟩:=HY.out;refine⟨hy2.mvL i j (by omega),?_,?_⟩
    . have hs:=KQ pk (seg x a i)
      rw[<-hy3] at hs;rw[Ymh y a i j hj1 hj2 hs h1 HM.out.2,Vu x a i (i+1) (by omega) (by omega),Kt,Vs,hy3,hy4 i (.inr (Qa _))]
    intro p hp;unfold mvL;rw[if_neg (by omega),if_neg (by omega)];exact hy4 p (by omega)
   by_cases haj:a<j
   . obtain⟨q,rfl⟩:∃q,j=q+1:=⟨j-1,by omega⟩
     obtain⟨j,Hj⟩:=Qi (q+1);rw[Hj.out] at HM hj2 haj Hfin ⊢;have d2:decide ((a:Int)<(j:Int))=true:=Qg (by omega);have hjv:=Hj.out;have w1:IntKind.i64.wrap ((j:Int)-1)=(q:Int):=(by rw[IntKind.wrap_i64];omega);have hjN:(j:Int)<(N:Int):=(by omega);have hqN:(q:Int)<(N:Int):=(by omega);have hc1:=HM.out.1.k j (by omega);have hs1:=HM.out.1.s j (by omega);have hc2:=HM.out.1.k q (by omega);have hs2:=HM.out.1.s q (by omega);have ej:mvL y i j j=y i:=if_pos rfl;have eq:mvL y i j q=y q:=(by unfold mvL;rw[if_neg (by omega),if_neg (by omega)]);rw[ej] at hc1 hs1;rw[eq] at hc2 hs2;have hb1:=HY.out.2.1 i (by omega);have hb2:=HY.out.2.1 q (by omega);obtain⟨X,HX⟩:=Qi (y i);obtain⟨Y,HYq⟩:=Qi (y q);rw[HX.out] at hc1 hs1 hb1;rw[HYq.out] at hc2 hs2 hb2;obtain⟨k1,a1,n1,c1⟩:=X;obtain⟨k2,a2,n2,c2⟩:=Y;unfold Pr.s at hs1 hs2;dsimp only at hc1 hs1 hb1 hc2 hs2 hb2;have CC:=Qf (fun W=>UD k1 k2 (.slice a1 n1 c1) (.slice a2 n2 c2) hb1 hb2 W);clear hjv ej eq;by_cases hk:k1<k2
     . have d3:decide (k1-k2<0)=true:=Qg (by omega)
       have hgl:g<wr.drew.heap.size:=PB.lt HM.out.1;have hc1d:wr.drew.cell? ⟨g,j*2,none⟩=some (.int .i64 k1):=hc1;have hs1d:wr.drew.cell? ⟨g,j*2+1,none⟩=some (.slice a1 n1 c1):=hs1;have hc2d:wr.drew.cell? ⟨g,q*2,none⟩=some (.int .i64 k2):=hc2;have hs2d:wr.drew.cell? ⟨g,q*2+1,none⟩=some (.slice a2 n2 c2):=hs2;go_wp2_with fail
       go_region_held3 (fun W=>W.cell? ⟨g,j*2,none⟩=some (.int .i64 k1)/\W.cell? ⟨g,j*2+1,none⟩=some (.slice a1 n1 c1)/\W.cell? ⟨g,q*2,none⟩=some (.int .i64 k2)/\W.cell? ⟨g,q*2+1,none⟩=some (.slice a2 n2 c2))
        (first|exact⟨by assumption,by assumption,by assumption,by assumption⟩|go_keep)
        (first
         |(go_at_call 112;refine(CC.out _).mono ?_;rintro e w8 ⟨rfl,hb8⟩;have hP8:PB w8 g C (mvL y i j):=(show PB wr.drew g C (mvL y i j) from HM.out.1).below hb8 hgl;have hG8:Ch1 w w8 g:=Ch1.below HG.out.drew hb8;have q1:=(hb8.cell (p:=⟨g,j*2,none⟩) hgl).trans hc1d;have q2:=(hb8.cell (p:=⟨g,j*2+1,none⟩) hgl).trans hs1d;have q3:=(hb8.cell (p:=⟨g,q*2,none⟩) hgl).trans hc2d;have q4:=(hb8.cell (p:=⟨g,q*2+1,none⟩) hgl).trans hs2d))
       rename_i hh;have HP8:=Qf hP8;have HG8:=Qf hG8;have hf1:=PB.frozen HP8.out (j*2);have hf2:=PB.frozen HP8.out (j*2+1);have hf3:=PB.frozen HP8.out (q*2);have hf4:=PB.frozen HP8.out (q*2+1);clear hh hb8 hP8 hG8 hgl hc1 hs1 hc2 hs2 hc1d hs1d hc2d hs2d CC HG;have HMlow:=Qf HM.out.2;clear HM;have hjv2:=Hj.out;have ne1:¬(q*2=j*2):=(by omega);have ne2:¬(q*2=j*2+1):=(by omega);have ne3:¬(q*2+1=j*2):=(by omega);have ne4:¬(q*2+1=j*2+1):=(by omega);have ne5:¬(j*2=q*2):=(by omega);have ne6:¬(j*2=q*2+1):=(by omega);have ne7:¬(j*2+1=q*2):=(by omega);have ne8:¬(j*2+1=q*2+1):=by omega
       have hPS:∀m,PB (((((w8.setCell ⟨g,j*2,none⟩ (.int .i64 k2)).setCell ⟨g,j*2+1,none⟩ (.slice a2 n2 c2)).setCell ⟨g,q*2,none⟩ (.int .i64 k1)).setCell ⟨g,q*2+1,none⟩ (.slice a1 n1 c1)).drewN m) g C (mvL y i q):=by
        intro m;have h:=HP8.out.sw j q (by omega) (by omega) (by omega);rw[<-hjv2,Ylk y i q (by omega)] at h;have e1:mvL y i (q+1) (q+1)=⟨k1,a1,n1,c1⟩:=(if_pos rfl).trans HX.out
        have e2:mvL y i (q+1) q=⟨k2,a2,n2,c2⟩:=by
         rw[<-HYq.out];unfold mvL;rw[if_neg (by omega),if_neg (by omega)]
        rw[e1,e2,hjv2] at h;exact h
       have hGS:∀m,Ch1 w (((((w8.setCell ⟨g,j*2,none⟩ (.int .i64 k2)).setCell ⟨g,j*2+1,none⟩ (.slice a2 n2 c2)).setCell ⟨g,q*2,none⟩ (.int .i64 k1)).setCell ⟨g,q*2+1,none⟩ (.slice a1 n1 c1)).drewN m) g:=fun m=>
        ((((HG8.out.set _ _).set _ _).set _ _).set _ _).drewN m
       have hlow:∀p,q<=p->p<i->(y i).k<(y p).k:=fun p h1 h2=>by
        by_cases e:p=q
        . rw[e,HX.out,HYq.out];exact hk
        exact HMlow.out p (by omega) h2
       have HPS:=Qf hPS;have HGS:=Qf hGS;have Hlow:=Qf hlow;have haq:a<=q:=(by omega);have hqi:q<=i:=(by omega);clear hjv2 hPS hGS hlow HP8 HG8;go_wp2_with fail
       go_region
       all_goals
        go_wp2_with fail;go_roundw
        case rel=>exact⟨q,haq,hqi,by first|rfl|go_num,Qf ⟨HPS.out 1,Hlow.out⟩,HGS.out 1⟩
        simp[intOf];have:=Hj.out;omega
     have d3:decide (k1-k2<0)=false:=Qh (by omega)
     have hfin:=Hfin.out (fun _=>by
      have e:j-1=q:=by have:=Hj.out;omega
      rw[e,HX.out,HYq.out];show k2<=k1
      omega)
     have HFin:=Qf hfin;clear hfin;have hgl:g<wr.drew.heap.size:=PB.lt HM.out.1;have hc1d:wr.drew.cell? ⟨g,j*2,none⟩=some (.int .i64 k1):=hc1;have hs1d:wr.drew.cell? ⟨g,j*2+1,none⟩=some (.slice a1 n1 c1):=hs1;have hc2d:wr.drew.cell? ⟨g,q*2,none⟩=some (.int .i64 k2):=hc2;have hs2d:wr.drew.cell? ⟨g,q*2+1,none⟩=some (.slice a2 n2 c2):=hs2;go_wp2_with fail
     go_region_held3 (fun W=>W.cell? ⟨g,j*2,none⟩=some (.int .i64 k1)/\W.cell? ⟨g,j*2+1,none⟩=some (.slice a1 n1 c1)/\W.cell? ⟨g,q*2,none⟩=some (.int .i64 k2)/\W.cell? ⟨g,q*2+1,none⟩=some (.slice a2 n2 c2))
      (first|exact⟨by assumption,by assumption,by assumption,by assumption⟩|go_keep)
      (first
       |(go_at_call 112;refine(CC.out _).mono ?_;rintro e w8 ⟨rfl,hb8⟩;have hP8:PB w8 g C (mvL y i j):=(show PB wr.drew g C (mvL y i j) from HM.out.1).below hb8 hgl;have hG8:Ch1 w w8 g:=Ch1.below HG.out.drew hb8;have q1:=(hb8.cell (p:=⟨g,j*2,none⟩) hgl).trans hc1d;have q2:=(hb8.cell (p:=⟨g,j*2+1,none⟩) hgl).trans hs1d;have q3:=(hb8.cell (p:=⟨g,q*2,none⟩) hgl).trans hc2d;have q4:=(hb8.cell (p:=⟨g,q*2+1,none⟩) hgl).trans hs2d))
     rename_i hh;have HP8:=Qf hP8;have HG8:=Qf hG8;clear hh hb8 hP8 hG8 hgl hc1 hs1 hc2 hs2 hc1d hs1d hc2d hs2d CC HG HM Hfin;go_wp2_with fail;go_roundw
     case rel=>exact⟨i+1,mvL y i j,by omega,.inl (by omega),by go_num,Qf ⟨HP8.out,HFin.out⟩,HG8.out⟩
     simp[intOf];omega
   obtain rfl:a=j:=by omega
   have d2:decide ((a:Int)<(a:Int))=false:=Qh (by omega);have HFin:=Qf (Hfin.out fun h=>by omega);have HPd:=Qf (fun n=>(show PB (wr.drewN n) g C (mvL y i a) from HM.out.1));have HGd:=Qf (fun n=>HG.out.drewN n);clear HM HG Hfin;go_wp2_with fail
   go_region
   all_goals
    go_wp2_with fail;go_roundw
    case rel=>exact⟨i+1,mvL y i a,by omega,.inl (by omega),by go_num,Qf ⟨HPd.out 1,HFin.out⟩,HGd.out 1⟩
    simp[intOf];omega
 have d1:decide ((i:Int)<(b:Int))=false:=Qh (by omega);go_wp2_with fail
 (try simp only[Exit.inBlock,Exit.then]);refine bodyPost_end (results_none rfl _ _ _) rfl ?_
 refine⟨rfl,HG.out,y,HY.out.1,HY.out.2.1,?_,fun p hp=>?_⟩
 rotate_left
 . by_cases e:p<a\/i<=p
   . exact HY.out.2.2.2 p e
   obtain rfl:p=a:=by omega
   have h:=HY.out.2.2.1;rw[show i=p+1 by omega,Kt,Kt] at h;have h2:Yw pk [x p]=[x p]:=UJ pk _ (List.pairwise_cons.2 ⟨fun z hz=>(by cases hz),List.Pairwise.nil⟩);rw[h2] at h;injection h
 rcases hi2 with h|h
 . obtain rfl:i=b:=by omega
   exact HY.out.2.2.1
 by_cases e:i=b
 . rw[<-e];exact HY.out.2.2.1
 rw[Xg y a b (by omega),Xg x a b (by omega)];rfl
end Go.Proofs.YthehocmfpoglgaaGreat
