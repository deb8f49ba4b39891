/- inflate's reader: lengths. Conditions: texts of at most a hundred thousand bytes. -/
import Derived.Test.YthehocmfpoglgaaGreatRLenKJ
import Derived.Deep.DeepCutAuto
import Derived.Deep.RegionHeld3
namespace Go.Proofs.YthehocmfpoglgaaGreat
open Go.RowKit
set_option maxRecDepth 100000
theorem Yi {α β γ:Type} (x:Rs α) (f:α->Sg->Rs β) (g:β->Sg->Rs γ):Yc (Yc x f) g=Yc x fun a σ=>Yc (f a σ) g:=by
 rcases x with e|⟨a,σ⟩<;>rfl
noncomputable def dyn6 (a b:Nat) (l:List Nat) (σ:Sg):Rs (List Nat × Nat):=if a+257+(b+1)<l.length\/l.getD 256 0=0 then .error 3 else .ok ((l,a+257),σ)
noncomputable def dyn5 (a b:Nat) (m:Nat->Int) (σ:Sg):Rs (List Nat × Nat):=Yc (YL (lens m) (a+257+(b+1)) (σ.n+1) σ []) (dyn6 a b)
noncomputable def dyn4 (a b:Nat) (m:Nat->Int) (σ:Sg):Rs (List Nat × Nat):=Yc (fitM m 19 σ) fun _ σ5=>dyn5 a b m σ5
noncomputable def dyn3 (a b c:Nat) (σ:Sg):Rs (List Nat × Nat):=if 286<a+257\/30<b+1 then .error 3 else Yc (Vy (ordL.take (c+4)) (fun _=>0) σ) (dyn4 a b)
noncomputable def Jj (l:List Nat) (s:Nat) (σ1:Sg):Rs (List Nat):=
 if s=16 then (if l=[] then .error 3 else Yc (Yy 2 σ1) fun b σ2=>.ok (l++List.replicate (3+b) (l.getLastD 0),σ2))
 else if s=17 then Yc (Yy 3 σ1) fun b σ2=>.ok (l++List.replicate (3+b) 0,σ2)
 else if s=18 then Yc (Yy 7 σ1) fun b σ2=>.ok (l++List.replicate (11+b) 0,σ2)
 else .ok (l++[s],σ1)
theorem Yc0 (K:Nat->Nat) (need f:Nat) (σ:Sg) (l:List Nat) (h:l.length<need):YL K need (f+1) σ l=Yc (symM K 19 σ) fun s σ1=>Yc (Jj l s σ1) fun l' σ2=>YL K need f σ2 l':=by
 show(if _ then _ else _)=_;rw[if_pos h];unfold Vv;rw[Yi];rfl
theorem YdZ (K:Nat->Nat) (need f:Nat) (σ:Sg) (l:List Nat) (h:¬l.length<need):YL K need (f+1) σ l=.ok (l,σ):=by
 show(if _ then _ else _)=_;rw[if_neg h]
def LenPost (w:World) (R P:Nat) (s:ByteArray) (most:Nat) (res:Rs (List Nat × Nat)) (r:Ending) (w':World):Prop:=
 Rch R P w w'/\∃v1 v2,r=.returned (.tuple #[v1,v2])/\Yk9 w' R P s most res (fun x=>∃a c1 a2 c2,v1=.slice a x.2 c1/\v2=.slice a2 (x.1.length-x.2) c2/\IRow w' a x.2 (lenF (x.1.take x.2))/\IRow w' a2 (x.1.length-x.2) (lenF (x.1.drop x.2))/\
  (∀y ∈ x.1,y<=15)/\x.2<=286/\x.1.length-x.2<=30/\(∀b off sp,a=some ⟨b,off,sp⟩->w.heap.size<=b)/\(∀b off sp,a2=some ⟨b,off,sp⟩->w.heap.size<=b))
theorem LenPost.bad {w w':World} {R P:Nat} {s:ByteArray} {most x p z:Nat} {res:Rs (List Nat × Nat)} (v1 v2:Value) (hC:Rch R P w w') (hx:x ≠ 0) (hres:res=.error x) (hR:RdAt w' R P s p z most x):LenPost w R P s most res (.returned (.tuple #[v1,v2])) w':=
 ⟨hC,v1,v2,rfl,.inl ⟨x,p,z,hres,hx,hR⟩⟩
set_option maxHeartbeats 64000000 in
theorem Yiy (R P:Nat) (s:ByteArray) (p z most:Nat) (hs:s.size<=100000) (hp:p<=8*s.size) (hz:z<=most) (w:World) (hR:RdAt w R P s p z most 0) :
 Calls Tryz.prog 75 #[.pointer (some ⟨R,0,none⟩)] w (LenPost w R P s most (dynM (sg s p z))):=by
 have hRlt:=hR.1.lt;have hPlt:=hR.2.1.lt;obtain⟨RES,HRES⟩:=Qi (dynM (sg s p z));have hL0:LR s RES p z 0 (fun σ=>Yc (Yy 5 σ) fun a σ1=>Yc (Yy 5 σ1) fun b σ2=>Yc (Yy 4 σ2) fun c σ3=>dyn3 a b c σ3):=.inl ⟨rfl,hp,by rw[<-HRES.out];rfl⟩;rw[HRES.out];have hL1:=hL0.bits;have CB1:=VP R P s p z most 0 5 (by decide) hs (by omega) w hR;have ha:=Nat.mod_lt (num s/2^p) (Nat.two_pow_pos 5);obtain⟨a,Ha⟩:=Qi (YI s p 5);obtain⟨e1,He1⟩:=Qi (Y5 s p 5 0);rw[Ha.out,He1.out] at CB1 hL1;have hal:a<32:=by rw[<-Ha.out];exact ha
 obtain⟨p1,Hp1⟩:=Qi (p+5);rw[Hp1.out] at CB1 hL1
 have hp1:p1<=800005:=by have:=Hp1.out;omega
 have hL2:=hL1.bits;have CB2:=fun W hR=>VP R P s p1 z most e1 5 (by decide) hs (by omega) W hR;have hb:=Nat.mod_lt (num s/2^p1) (Nat.two_pow_pos 5);obtain⟨b,Hb⟩:=Qi (YI s p1 5);obtain⟨e2,He2⟩:=Qi (Y5 s p1 5 e1);rw[Hb.out,He2.out] at CB2 hL2;have hbl:b<32:=by rw[<-Hb.out];exact hb
 obtain⟨p2,Hp2⟩:=Qi (p1+5);rw[Hp2.out] at CB2 hL2
 have hp2:p2<=800010:=by have:=Hp2.out;omega
 have hL3:=hL2.bits;have CB3:=fun W hR=>VP R P s p2 z most e2 4 (by decide) hs (by omega) W hR;have hc:=Nat.mod_lt (num s/2^p2) (Nat.two_pow_pos 4);obtain⟨c,Hc⟩:=Qi (YI s p2 4);obtain⟨e3,He3⟩:=Qi (Y5 s p2 4 e2);rw[Hc.out,He3.out] at CB3 hL3;have hcl:c<16:=by rw[<-Hc.out];exact hc
 obtain⟨p3,Hp3⟩:=Qi (p2+4);rw[Hp3.out] at CB3 hL3
 have hp3:p3<=800014:=by have:=Hp3.out;omega
 obtain⟨nl,Hnl⟩:=Qi (a+257);obtain⟨nd,Hnd⟩:=Qi (b+1);obtain⟨nc,Hnc⟩:=Qi (c+4)
 have hnl:257<=nl/\nl<=288:=by have:=Hnl.out;omega
 have hnd:1<=nd/\nd<=32:=by have:=Hnd.out;omega
 have hnc:4<=nc/\nc<=19:=by have:=Hnc.out;omega
 have wl:IntKind.i64.wrap ((a:Int)+257)=(nl:Int):=by rw[show(a:Int)+257=(nl:Int) by have:=Hnl.out;omega];exact IntWalk.i64_in _ (by omega)
 have wd:IntKind.i64.wrap ((b:Int)+1)=(nd:Int):=by rw[show(b:Int)+1=(nd:Int) by have:=Hnd.out;omega];exact IntWalk.i64_in _ (by omega)
 have wc:IntKind.i64.wrap ((c:Int)+4)=(nc:Int):=by rw[show(c:Int)+4=(nc:Int) by have:=Hnc.out;omega];exact IntWalk.i64_in _ (by omega)
 have HL3:Hid (LR s RES p3 z e3 (fun σ=>if 286<nl\/30<nd then .error 3 else Yc (Vy (ordL.take nc) (fun _=>0) σ) (dyn4 a b))):=by
  refine hL3.congr ?_;show dyn3 a b c (sg s p3 z)=_;unfold dyn3;rw[Hnl.out,Hnd.out,Hnc.out]
 have H1:=Qf CB1;have H2:=Qf CB2;have H3:=Qf CB3;clear hL0 hL1 hL2 hL3 CB1 CB2 CB3 ha hb hc Ha Hb Hc He1 He2 He3 Hp1 Hp2 Hp3 hal hbl hcl hp HRES hR;go_enter Tryz.func75,Tryz.ntmps75;go_wp2_with fail;refine H1.out.mono ?_;rintro r w1 ⟨rfl,hR1,hC1⟩;have HR1:=Qf hR1;have HC1:=Qf hC1;clear hR1 hC1;go_wp2_with fail;refine(H2.out _ HR1.out).mono ?_;rintro r w2 ⟨rfl,hR2,hC2⟩;have HR2:=Qf hR2;have HC2:=Qf (HC1.out.trans hC2);clear hR2 hC2 HR1 HC1;go_wp2_with fail;refine(H3.out _ HR2.out).mono ?_;rintro r w3 ⟨rfl,hR3,hC3⟩;have HR3:=Qf hR3;have HC3:=Qf (HC2.out.trans hC3);clear hR3 hC3 HR2 HC2 H1 H2 H3 hp1 hp2;obtain⟨BD,HBD⟩:=Qi (decide (286<nl\/30<nd));go_upto_region 2 with(fail)
 go_cut [27] (fun c_ wx=>c_=.bool BD/\wx=w3)
 case first=>
  by_cases h1:286<nl
  . have d1:decide ((286:Int)<(nl:Int))=true:=Qg (by omega)
    have d1b:decide (286<nl)=true:=Qg (by omega);have eB:BD=true:=(by rw[<-HBD.out];exact decide_eq_true (.inl h1));go_wp2_with fail;go_meet;exact⟨by rw[eB],rfl⟩
  have d1:decide ((286:Int)<(nl:Int))=false:=Qh (by omega);have d1b:decide (286<nl)=false:=Qh (by omega);by_cases h2:30<nd
  . have d2:decide ((30:Int)<(nd:Int))=true:=Qg (by omega)
    have d2b:decide (30<nd)=true:=Qg (by omega);have eB:BD=true:=(by rw[<-HBD.out];exact decide_eq_true (.inr h2));go_wp2_with fail;go_meet;exact⟨by rw[eB],rfl⟩
  have d2:decide ((30:Int)<(nd:Int))=false:=Qh (by omega);have d2b:decide (30<nd)=false:=Qh (by omega);have eB:BD=false:=by rw[<-HBD.out];exact decide_eq_false (by omega)
  go_wp2_with fail;go_meet;exact⟨by rw[eB],rfl⟩
 obtain⟨rfl,hwc⟩:=hcut;have hwc2:=hwc.symm;subst hwc2;clear hwc
 go_upto_if 27 with(fail)
 go_cut [] (fun wx=>∃e,Hid (RdAt wx R P s p3 z most e)/\Hid (Rch R P w wx)/\Hid (LR s RES p3 z e (fun σ=>Yc (Vy (ordL.take nc) (fun _=>0) σ) (dyn4 a b)))/\Hid (e=0->nl<=286/\nd<=30))
 case first=>
  cases BD with
  |true=>
   have hB:286<nl\/30<nd:=of_decide_eq_true HBD.out;have HL4:Hid (LR s RES p3 z (Yu e3 3) (fun σ=>Yc (Vy (ordL.take nc) (fun _=>0) σ) (dyn4 a b))):=HL3.out.stop hB (by decide);go_wp2_with fail;refine(Vo R P s p3 z most e3 3 _ HR3.out).mono ?_;rintro r w4 ⟨rfl,hR4,hC4⟩;have HR4:=Qf hR4;have HC4:=Qf (HC3.out.trans hC4);clear hR4 hC4;go_wp2_with fail;go_meet;refine⟨_,HR4,HC4,HL4,fun h=>?_⟩;unfold Yu at h;split at h<;>omega
  |false=>
   have hB:¬(286<nl\/30<nd):=of_decide_eq_false HBD.out;go_wp2_with fail;go_meet;exact⟨e3,HR3,HC3,HL3.out.pass hB,fun _=>by omega⟩
 obtain⟨e,HR,HC,HL,Hn⟩:=hcut;clear HR3 HC3 HL3 HBD;have hmk:=XC (t:=113) (e:=3) Tryz.underlying113 Y9 rfl 19 (19:Int) rfl (by decide) (by decide) wc;have e0:Yg 19 (fun _=>Value.int .i64 0)=Yg 19 (KG fun _=>0):=rfl;rw[e0] at hmk;have HM0:=Qf (Blk.new wc 3 (Yg 19 (KG fun _=>0)));have hbl:=(Below.refl wc.heap.size wc).alloc (Qa _) (.cells (Yg 19 (KG fun _=>0)) 3);have HR4:=Qf (HR.out.keep hbl);have hwc:w.heap.size<=wc.heap.size:=HC.out.2.2.2.1;have HC4:=Qf (HC.out.then_below hbl hwc);obtain⟨G1,HG1⟩:=Qi (wc.heap.size);rw[HG1.out] at hmk HM0 hwc;have nG1:G1 ≠ R/\G1 ≠ P:=by omega
 clear hbl HR HC HG1 e0;go_wp2_with fail;obtain⟨w4,HW4⟩:=Qi (wc.alloc (.cells (Yg 19 (KG fun _=>0)) 3));rw[HW4.out] at HM0 HR4 HC4 ⊢;clear HW4 hmk;refine(YcU w4).mono ?_;rintro r w5 ⟨rfl,hO5,hb5⟩;have HO5:=Qf hO5;have HR5:=Qf (HR4.out.keep hb5);have HM5:=Qf (HM0.out.below hb5 HM0.out.lt);have hw4:w.heap.size<=w4.heap.size:=HC4.out.2.2.2.1;have HC5:=Qf (HC4.out.then_below hb5 hw4);have h12:=HM0.out.lt;obtain⟨G2,HG2⟩:=Qi (w4.heap.size);rw[HG2.out] at HO5 hw4 h12 ⊢;have nG2:G2 ≠ R/\G2 ≠ P:=by omega
 have hncI:(nc:Int)<=19/\0<=(nc:Int):=by omega
 clear hO5 hb5 HR4 HM0 HC4 HG2;go_wp2_with fail
 go_loopw [35] (fun j_ wr=>∃(j p e:Nat) (m:Nat->Int),j<=nc/\j_=.int .i64 (j:Int)/\p<=800014+3*j/\Hid (∀i,0<=m i/\m i<=7)/\Hid (Blk wr G1 3 (Yg 19 (KG m)))/\Hid (Blk wr G2 3 #[.int .i64 16,.int .i64 17,.int .i64 18,.int .i64 0,.int .i64 8,.int .i64 7,.int .i64 9,.int .i64 6,.int .i64 10,.int .i64 5,.int .i64 11,.int .i64 4,.int .i64 12,.int .i64 3,.int .i64 13,.int .i64 2,.int .i64 14,.int .i64 1,.int .i64 15])/\Hid (RdAt wr R P s p z most e)/\Hid (Rch R P w wr)/\Hid (LR s RES p z e (fun σ=>Yc (Vy ((ordL.take nc).drop j) m σ) (dyn4 a b)))/\Hid (e=0->nl<=286/\nd<=30)) (fun j _=>nc-(intOf j).toNat)
 case atStart=>exact⟨0,p3,e,fun _=>0,by omega,rfl,by omega,(fun _=>⟨Int.le_refl 0,(by decide:(0:Int)<=7)⟩),HM5,HO5,HR5,HC5,HL,Hn⟩
 clear HM5 HO5 HR5 HC5 HL Hn;obtain⟨j,p,e,m,hj,rfl,hp,Hm,HM,HO,HR,HC,HL,Hn⟩:=hrel;by_cases hlt:j<nc
 . have dk:decide ((j:Int)<(nc:Int))=true:=Qg (by omega)
   have hjI:(j:Int)<(nc:Int):=by omega
   have hco:=HO.out.cell j;rw[YcV j (by omega)] at hco;have hol:=Ylj j (by omega);have hd:=YeS nc j hlt hnc.2;obtain⟨q,Hq⟩:=Qi (ordL.getD j 0);rw[Hq.out] at hco hol hd;have CB:=VP R P s p z most e 3 (by decide) hs (by omega) wr HR.out;have hv8:YI s p 3<8:=Nat.mod_lt _ (by decide)
   have HL2:Hid (LR s RES (p+3) z (Y5 s p 3 e) (fun σ=>Yc (Vy ((ordL.take nc).drop (j+1)) (fun i=>if i=q then ((YI s p 3:Nat):Int) else m i) σ) (dyn4 a b))):=by
    have h1:LR s RES p z e (fun σ=>Yc (Yy 3 σ) (fun v σ1=>Yc (Vy ((ordL.take nc).drop (j+1)) (fun i=>if i=q then (v:Int) else m i) σ1) (dyn4 a b))):=by
     refine HL.out.congr ?_;show Yc (Vy ((ordL.take nc).drop j) m (sg s p z)) _=_;rw[hd];show Yc (Yc _ _) _=_;rw[Yi]
    exact h1.bits
   obtain⟨v,Hv⟩:=Qi (YI s p 3);rw[Hv.out] at CB hv8 HL2;have HCB:=Qf CB;clear CB hd HL;go_wp2_with fail;refine HCB.out.mono ?_;rintro r w6 ⟨rfl,hR6,hC6⟩;have hM6:=hC6.blk HM.out nG1.1 nG1.2;have hO6:=hC6.blk HO.out nG2.1 nG2.2;have HC6:=Qf (HC.out.trans hC6);have hqI:(q:Int)<19/\0<=(q:Int):=by omega
   have hfz:=hM6.frozen q;have hcl:=hM6.cell q;rw[Yp 19 _ q hol] at hcl
   have HM7:Hid (Blk (w6.setCell ⟨G1,q,none⟩ (.int .i64 (v:Int))) G1 3 (Yg 19 (KG (fun i=>if i=q then (v:Int) else m i)))):=by
    show Blk _ _ _ _;have h:=hM6.set_ q (.int .i64 (v:Int));rw[YA] at h;rw[Ys 19 (KG fun i=>if i=q then (v:Int) else m i) (fun i=>if i=q then .int .i64 (v:Int) else KG m i)]
    . exact h
    intro i _;show Value.int .i64 (if i=q then (v:Int) else m i)=(if i=q then .int .i64 (v:Int) else .int .i64 (m i));split<;>rfl
   have hbs:=(Below.refl w.heap.size w6).setCell (p:=⟨G1,q,none⟩) hwc (.int .i64 (v:Int));have HO7:=Qf (hO6.far (p:=⟨G1,q,none⟩) (by show G2 ≠ G1;omega) (.int .i64 (v:Int)));have HR7:=Qf (hR6.below hbs hRlt hPlt);have HC7:=Qf (HC6.out.then_below hbs (Qa _))
   have Hm7:Hid (∀i,0<=(if i=q then (v:Int) else m i)/\(if i=q then (v:Int) else m i)<=7):=fun i=>by
    have:=Hm.out i;split<;>omega
   have Hn7:Hid (Y5 s p 3 e=0->nl<=286/\nd<=30):=fun h=>by
    refine Hn.out ?_;unfold Y5 Yu at h;split at h
    . split at h
      . cases h
      exact h
    exact h
   clear hM6 hO6 hC6 hR6 hbs HR HM HO HC HCB hco Hm Hn;go_wp2_with fail;obtain⟨w7,HW7⟩:=Qi (w6.setCell ⟨G1,q,none⟩ (.int .i64 (v:Int)));rw[HW7.out] at HM7 HO7 HR7 HC7 ⊢;clear HW7 hfz hcl;go_wp2_with fail;go_roundw
   case rel=>exact⟨j+1,p+3,_,_,by omega,by go_num,by omega,Hm7,HM7,HO7,HR7,HC7,HL2,Hn7⟩
   simp[intOf];omega
 obtain rfl:j=nc:=by omega
 have dk:decide ((j:Int)<(j:Int))=false:=Qh (by omega)
 have HK:Hid (LR s RES p z e (fun σ=>dyn4 a b m σ)):=by
  refine HL.out.congr ?_;show Yc (Vy ((ordL.take j).drop j) m (sg s p z)) _=_;rw[List.drop_eq_nil_of_le (by rw[List.length_take];omega)];rfl
 have HI:Hid (IRow wr (some ⟨G1,0,none⟩) 19 m):=by
  refine .inr ⟨G1,0,rfl,HM.out.lt,fun i hi=>?_⟩;rw[HM.out.cell (0+i),Nat.zero_add,Yp 19 _ i hi];rfl
 clear HL HM HO;by_cases he:e=0
 . subst he
   obtain⟨hn1,hn2⟩:=Hn.out rfl;have CP:=Qf (Yag (some ⟨G1,0,none⟩) 19 19 m (by decide) (fun i _=>by have:=Hm.out i;omega) R P s p z most wr HI.out HR.out);go_wp2_with fail;refine CP.out.mono ?_;rintro r w6 ⟨hC6,⟨hf,rfl,hR6⟩|⟨hf,T,g,N,cap,B,pv,pn,rfl,hT,hg,hA,hG,hR6⟩⟩
   . have HE:Hid (RES=.error 3):=HK.out.bad (by unfold dyn4 fitM VN;rw[if_neg hf];rfl)
     have HR6:=Qf hR6;have HC6:=Qf (HC.out.trans hC6);clear hC6 hf hR6 CP HK HR HC;go_wp2_with fail
     go_loopw [11] (fun v_ wr=>v_=.slice none 0 0/\wr=w6) (fun _ _=>0)
     case atStart=>exact⟨rfl,rfl⟩
     obtain⟨rfl,hw2⟩:=hrel;have hw3:=hw2.symm;subst hw3;have c3:=HR6.out.1.cell 3;simp at c3;have hws:IntKind.i64.wrap ((nl:Int)+(nd:Int))=(nl:Int)+(nd:Int):=IntWalk.i64_in _ (by omega);have dz:decide (0<(nl:Int)+(nd:Int))=true:=Qg (by omega);go_wp2_with fail;go_ret2;exact LenPost.bad _ _ HC6.out (by first|assumption|decide) HE.out HR6.out
   have HR6:=Qf hR6;have HC6:=Qf (HC.out.trans hC6);have hRw:=HR.out.1.lt;have hPw:=HR.out.2.1.lt;have nT:T ≠ R/\T ≠ P/\g ≠ R/\g ≠ P:=by omega
   have hRB:R<w6.heap.size:=hR6.1.lt;have hPB:P<w6.heap.size:=hR6.2.1.lt;have hwB:w.heap.size<=w6.heap.size:=HC6.out.2.2.2.1;have hTB:T<w6.heap.size:=hA.1.lt;have hgB:g<w6.heap.size:=hA.2.1
   have hm15:∀i,i<19->lens m i<=15:=fun i _=>by have:=Hm.out i;unfold lens;omega
   have CS:=Qf (fun p W hp hA hR=>YbG (lens m) 19 hm15 (by decide) T g N cap B pv pn hG R P s p z most hs hp nT.2.1 nT.2.2.2 W hA hR);obtain⟨need,Hneed⟩:=Qi (a+257+(b+1))
   have hneed:nl+nd=need:=by have:=Hneed.out;have:=Hnl.out;have:=Hnd.out;omega
   have hneedb:258<=need/\need<=316/\nl<need:=by omega
   have HD6:Hid (∀l σ,dyn6 a b l σ=if need<l.length\/l.getD 256 0=0 then .error 3 else .ok ((l,nl),σ)):=by
    intro l σ;unfold dyn6;rw[Hneed.out,Hnl.out]
   have HL6:Hid (LR s RES p z 0 (fun σ=>Yc (YL (lens m) need (8*s.size-p+1) σ []) (dyn6 a b))):=by
    refine HK.out.congr ?_;unfold dyn4 fitM VN;rw[if_pos hf,Yj];unfold dyn5;rw[Hneed.out];rfl
   have hws:IntKind.i64.wrap ((nl:Int)+(nd:Int))=(need:Int):=by rw[show(nl:Int)+(nd:Int)=(need:Int) by omega];exact IntWalk.i64_in _ (by omega)
   obtain⟨K,HKK⟩:=Qi (lens m);obtain⟨D6,HDD⟩:=Qi (dyn6 a b);rw[HKK.out] at CS HL6;rw[HDD.out] at HL6 HD6;obtain⟨BB,HBB⟩:=Qi (w6.heap.size);have HBs:BB<=w6.heap.size:=by rw[HBB.out];exact Qa _
   rw[HBB.out] at hRB hPB hwB hTB hgB;have KB:Hid (LB w R P BB T g):=⟨hRB,hPB,hwB,⟨hTB,hgB⟩,nT⟩;have HS6:Hid (LS w R P BB T g N cap B (.slice none 0 0) [] w6):=⟨World.ownsRow_nil _ _ _ _,hA,HC6.out,HBs⟩;have hp88:p<=800071:=by omega
   have Hdecl:=Qf hneed;clear hR6 hC6 HC6 HC HR hRw hPw hA hG hm15 HK HKK HDD HBB hf CP HI Hm Hn hT hg Hneed Hnl Hnd Hnc hneed HBs;go_wp2_with fail
   go_loopw [11] (fun v_ wr=>∃(l:List Nat) (p e fu:Nat),l.length<=460/\p<=900000/\Hid (LS w R P BB T g N cap B v_ l wr)/\Hid (∀y ∈ l,y<=15)/\Hid (RdAt wr R P s p z most e)/\Hid (e=0->8*s.size-p<fu)/\Hid (LR s RES p z e (fun σ=>Yc (YL K need fu σ l) D6))) (fun _ wr=>8*s.size+1-Ym wr ⟨P,1,none⟩)
   case atStart=>exact⟨[],p,0,_,by decide,by omega,HS6,(fun y hy=>by cases hy),HR6,(fun _=>Nat.lt_succ_self _),HL6⟩
   clear HS6 HR6 HL6 hp88 hp;obtain⟨l,p,e,fu,hl,hp,HS,Hl,HR,Hfu,HL⟩:=hrel;have cm:=Yf (n:=p) (by simpa using Blk.cell HR.out.2.1 1);have Hcm:=Qf cm;have c3:=HR.out.1.cell 3;simp at c3;clear cm;obtain⟨va,vc,Hv⟩:∃va vc,Hid (u11=.slice va l.length vc):=HS.out.own.form;have hv:=Hv.out;subst hv;obtain⟨ll,Hll⟩:=Qi (l.length);rw[Hll.out] at HS hl ⊢;clear Hv;by_cases he:e=0
   . subst he
     obtain⟨f,Hf⟩:∃f,Hid (fu=f+1):=⟨fu-1,by show _=_;have:=Hfu.out (by first|rfl|trivial);omega⟩;have hff:=Hf.out;subst hff;obtain⟨hp8,hKK⟩:=HL.out.ok;by_cases hlen:ll<need
     . obtain⟨dl,dl2⟩:=Qj (show ll<need by omega)
       have hstep:=Yc0 K need f (sg s p z) l (by rw[Hll.out];exact hlen)
       have HKK:Hid (Yc (Yc (symM K 19 (sg s p z)) fun s σ1=>Yc (Jj l s σ1) fun l' σ2=>YL K need f σ2 l') D6=RES):=by
        show _=_;rw[<-hstep];exact hKK
       clear hKK hstep Hf HL;go_wp2_with fail;refine(CS.out p _ hp8 HS.out.a HR.out).mono ?_;rintro r w7 ⟨v,p1,rfl,hC7,hp1,hp1b,⟨x,hx,hsy,hR7,rfl⟩|⟨hsy,hp1c,hvn,hR7⟩⟩
       . have HE:Hid (RES=.error x):=by show _=_;rw[<-HKK.out,hsy];rfl
         have HS7:=Qf (HS.out.rch KB.out hC7);have HR7:=Qf hR7;clear hC7 hR7 hsy HKK CS HS HR c3
         have hos:w7.ownsRow BB 3 1 (.slice va ll vc) ll (VA l):=by
          have h:=HS7.out.own;unfold OwnN at h
          rwa [Hll.out] at h
         have hbsw:=HS7.out.sz
         have hone:∀u ∈ ([.int .i64 0]:List Value),u.oneCell'=true:=by
          intro u hu;simp at hu;subst hu;rfl
         go_wp2_with (first
          |(at_builtin;go_must (refine Ya _ rfl (.tmp 65) (.tmp 67) rfl Tryz.underlying113 Y9 rfl (by decide) BB (.slice va ll vc) ll (VA l) [.int .i64 0] hos rfl hone rfl rfl rfl ?_ ?_ hbsw ?_;(unfold maxLen;omega);omega;intro v8 w8 hown8 hg8;have hb8:=Yb hos hg8 hbsw;have HS8:=Qf (HS7.out.app KB.out hb8 (OwnN.add (m:=[0]) hown8 Hll.out rfl rfl));have HR8:=Qf (HR7.out.below hb8 KB.out.rb KB.out.pb);clear hown8 hg8 hb8 hos hbsw hone HS7 HR7))
          |fail)
         have HTR:Hid (LR s RES p1 z x (fun σ=>Yc (YL K need 0 σ (l++[0])) D6)):=.inr ⟨hx,HE.out⟩
         have Hl2:Hid (∀y ∈ l++[0],y<=15):=fun y hy=>by
          rcases List.mem_append.1 hy with h|h
          . exact Hl.out y h
          rw[List.mem_singleton.1 h];decide
         have cm9:Ym w8 ⟨P,1,none⟩=p1:=Yf ((Blk.cell HR8.out.2.1 1).trans rfl);have Hcm9:=Qf cm9;clear cm9;go_roundw
         case rel=>exact⟨(l++[0]),p1,x,0,by have:=Hll.out;simp;omega,by omega,HS8,Hl2,HR8,(fun h=>absurd h hx),HTR⟩
         rw[Hcm9.out,Hcm.out];omega
       have HS7:=Qf (HS.out.rch KB.out hC7);have HR7:=Qf hR7;have HL7:Hid (LR s RES p1 z 0 (fun σ=>Yc (Yc (Jj l v σ) fun l' σ2=>YL K need f σ2 l') D6)):=.inl ⟨rfl,hp1c,by rw[<-HKK.out,hsy];rfl⟩;have Hff:Hid (8*s.size-p<f+1):=Hfu.out (by first|rfl|trivial);clear hC7 hR7 hsy HKK HS HR c3 CS;by_cases h16:v=16
       . subst h16
         by_cases hl0:ll=0
         . have hle:l=[]:=List.eq_nil_of_length_eq_zero (by rw[Hll.out];exact hl0)
           have HE:Hid (RES=.error 3):=HL7.out.bad (by unfold Jj;rw[if_pos rfl,if_pos hle];rfl);have hll0:l.length<=460:=(by rw[Hll.out];exact hl);have Hll0:=Qf hll0;clear hle HL7 hll0;subst hl0;go_wp2_with fail;refine(Vo R P s p1 z most 0 3 _ HR7.out).mono ?_;rintro r w8 ⟨rfl,hR8,hC8⟩;have HR8:Hid (RdAt w8 R P s p1 z most 3):=hR8;have HS8:=Qf (HS7.out.rch KB.out hC8);have HTR:Hid (LR s RES p1 z 3 (fun σ=>Yc (YL K need 0 σ l) D6)):=.inr ⟨by decide,HE.out⟩;clear hR8 hC8 HS7 HR7;go_wp2_with fail;have cm9:Ym w8 ⟨P,1,none⟩=p1:=Yf ((Blk.cell HR8.out.2.1 1).trans rfl);have Hcm9:=Qf cm9;clear cm9;go_roundw
           case rel=>exact⟨l,p1,3,0,Hll0.out,by omega,(by show LS _ _ _ _ _ _ _ _ _ _ _ _;rw[Hll.out] at *;exact HS8.out),Hl,HR8,(fun h=>absurd h (by decide)),HTR⟩
           rw[Hcm9.out,Hcm.out];omega
         have d0:((ll:Int)==0)=false:=(by simp;omega);obtain⟨G,rfl,hG1,hG2,hG3,hG4⟩:=OwnN.pos HS7.out.own Hll.out (by omega);obtain⟨n1,Hn1⟩:∃n1,Hid (n1+1=ll):=⟨ll-1,by show _=_;omega⟩
         have hn1:n1<ll:=by have:=Hn1.out;omega
         have hn1I:(n1:Int)<=(ll:Int)/\0<=(n1:Int):=by omega
         have hsub:ll-n1=1:=by have:=Hn1.out;omega
         have hwsub:IntKind.i64.wrap ((ll:Int)-1)=(n1:Int):=(by rw[show(ll:Int)-1=(n1:Int) by have:=Hn1.out;omega];exact IntWalk.i64_in _ (by omega));have hvn:¬vc=n1:=by omega
         have hy15:l.getD n1 0<=15:=by
          have h:n1<l.length:=(by rw[Hll.out];exact hn1);have:l.getD n1 0=l[n1]:=(by simp[List.getD,h]);rw[this];exact Hl.out _ (List.getElem_mem h)
         have hlast:l.getLastD 0=l.getD n1 0:=by
          have h:n1+1=l.length:=(by rw[Hll.out];exact Hn1.out);rw[List.getLastD_eq_getLast?,List.getLast?_eq_getElem?,<-h];simp[List.getD]
         have hcl:=hG4 n1 hn1
         have hne:l ≠ []:=fun h=>by
          have h2:=Hll.out;rw[h] at h2;simp at h2;omega
         obtain⟨y,Hy⟩:=Qi (l.getD n1 0);rw[Hy.out] at hcl hlast hy15;have CB:=fun W hR=>VP R P s p1 z most 0 2 (by decide) hs (by omega) W hR;have hvb:YI s p1 2<4:=Nat.mod_lt _ (by decide)
         have HL8:Hid (LR s RES (p1+2) z (Y5 s p1 2 0) (fun σ=>Yc (YL K need f σ (l++List.replicate (3+YI s p1 2) y)) D6)):=by
          have h1:LR s RES p1 z 0 (fun σ=>Yc (Yy 2 σ) (fun b σ1=>Yc (YL K need f σ1 (l++List.replicate (3+b) y)) D6)):=by
           refine HL7.out.congr ?_;unfold Jj;rw[if_pos rfl,if_neg hne,hlast,Yi,Yi];rfl
          exact h1.bits
         obtain⟨vb,Hvb⟩:=Qi (YI s p1 2);obtain⟨e2,He2⟩:=Qi (Y5 s p1 2 0);rw[Hvb.out,He2.out] at HL8;simp only[Hvb.out,He2.out] at CB;rw[Hvb.out] at hvb;obtain⟨kk,Hkk⟩:=Qi (3+vb);rw[Hkk.out] at HL8
         have hkb:3<=kk/\kk<=6:=by have:=Hkk.out;omega
         have hwk:IntKind.i64.wrap (3+(vb:Int))=(kk:Int):=(by rw[show 3+(vb:Int)=(kk:Int) by have:=Hkk.out;omega];exact IntWalk.i64_in _ (by omega));have HCB:=Qf CB;have HRd:Hid (RdAt w7.drew R P s p1 z most 0):=HR7.out;have HSd:Hid (LS w R P BB T g N cap B (.slice (some ⟨G,0,none⟩) ll vc) l w7.drew):=HS7.out.rch KB.out ⟨rfl,rfl,rfl,Qa _,fun _ _ _ _=>rfl⟩;have Hcl:Hid (w7.drew.cell? ⟨G,n1,none⟩=some (.int .i64 (y:Int))):=hcl
         have nGR:G ≠ R/\G ≠ P:=by have:=KB.out.rb;have:=KB.out.pb;omega
         have hG2d:G<w7.drew.heap.size:=hG2;clear CB HL7 hG4 hlast hne hcl hn1 HS7 HR7 hG2;go_wp2_with fail;obtain⟨i0,hi,hz0,hz1,hz2⟩:=info_parts Y9;have hi':Tryz.prog.info? 3=some i0:=hi;have hRP:∀W,RdAt W R P s p1 z most 0->LS w R P BB T g N cap B (.slice (some ⟨G,0,none⟩) ll vc) l W->W.cell? ⟨G,n1,none⟩=some (.int .i64 (y:Int))->True:=fun _ _ _ _=>trivial;clear hRP
         go_region_held3 (fun _=>True) (trivial)
          (first
           |(go_at_call 72;refine(HCB.out _ HRd.out).mono ?_;rintro r wb ⟨rfl,hRb,hCb⟩;have HSb:=Qf (HSd.out.rch KB.out hCb);have HRb:=Qf hRb;have hclb:=(hCb.cell hG2d nGR.1 nGR.2).trans Hcl.out;have CP:=Qf (Ya9 (y:Int) kk (by omega) (by omega) G n1 (vc-n1) wb hclb);clear hRb hCb hclb)
           |(go_at_call 87;refine CP.out.mono ?_;rintro r wc ⟨rfl,hBc,hbc⟩;have HSc:=Qf (HSb.out.below KB.out hbc);have HRc:=Qf (HRb.out.keep hbc);rw[Ym4] at hBc;have HBc:=Qf hBc;clear hBc hbc)
           |(refine step_append_lies wc rfl (.tmp 76) (.tmp 85) 113 rfl BB 3 i0 (.int .i64 0) 1 8 Tryz.underlying113 hi' hz0 hz1 hz2 rfl (by decide) (.slice (some ⟨G,0,none⟩) ll vc) ll (VA l) rfl (OwnN.row HSc.out.own Hll.out) ⟨wb.heap.size,0,none⟩ kk kk (List.replicate kk (.int .i64 (y:Int))) rfl (by simp) (Yj9 HBc.out) (by intro u hu;rw[List.eq_of_mem_replicate hu];rfl) (by omega) (by unfold maxLen;omega) (by omega) HSc.out.sz _ rfl ?_;intro g8 cp8 w8 hown8 hg8 _ _;have hb8:=Yb (OwnN.row HSc.out.own Hll.out) hg8 HSc.out.sz;have HS8:=Qf (HSc.out.app KB.out hb8 (OwnN.add (m:=List.replicate kk y) hown8 Hll.out (by simp) (by rw[Jd])));have HR8:=Qf (HRc.out.below hb8 KB.out.rb KB.out.pb);clear hown8 hg8 hb8))
         go_wp2_with fail
         have Hl2:Hid (∀x ∈ l++List.replicate kk y,x<=15):=fun x hx=>by
          rcases List.mem_append.1 hx with h|h
          . exact Hl.out x h
          rw[List.eq_of_mem_replicate h];exact hy15
         have HTR:=HL8;have cm9:Ym w8 ⟨P,1,none⟩=(p1+2):=Yf ((Blk.cell HR8.out.2.1 1).trans rfl);have Hcm9:=Qf cm9;clear cm9;go_roundw
         case rel=>exact⟨(l++List.replicate kk y),(p1+2),e2,f,by have:=Hll.out;simp;omega,by omega,HS8,Hl2,HR8,(fun _=>by have:=Hff.out;omega),HTR⟩
         rw[Hcm9.out,Hcm.out];omega
       have d16:((v:Int)==16)=false:=(by simp;omega);by_cases h17:v=17
       . subst h17
         have CB:=VP R P s p1 z most 0 3 (by decide) hs (by omega) w7 HR7.out;have hvb:YI s p1 3<8:=Nat.mod_lt _ (by decide)
         have HL8:Hid (LR s RES (p1+3) z (Y5 s p1 3 0) (fun σ=>Yc (YL K need f σ (l++List.replicate (3+YI s p1 3) 0)) D6)):=by
          have h1:LR s RES p1 z 0 (fun σ=>Yc (Yy 3 σ) (fun b σ1=>Yc (YL K need f σ1 (l++List.replicate (3+b) 0)) D6)):=by
           refine HL7.out.congr ?_;show Yc (Yc (Yc (Yy 3 (sg s p1 z)) _) _) _=_;rw[Yi,Yi];rfl
          exact h1.bits
         obtain⟨vb,Hvb⟩:=Qi (YI s p1 3);obtain⟨e2,He2⟩:=Qi (Y5 s p1 3 0);rw[Hvb.out,He2.out] at CB HL8;rw[Hvb.out] at hvb;obtain⟨kk,Hkk⟩:=Qi (3+vb);rw[Hkk.out] at HL8
         have hkb:3<=kk/\kk<=10:=by have:=Hkk.out;omega
         have hwk:IntKind.i64.wrap (3+(vb:Int))=(kk:Int):=(by rw[show 3+(vb:Int)=(kk:Int) by have:=Hkk.out;omega];exact IntWalk.i64_in _ (by omega));have HCB:=Qf CB;clear CB HL7;go_wp2_with fail;refine HCB.out.mono ?_;rintro r wb ⟨rfl,hRb,hCb⟩;have HSb:=Qf (HS7.out.rch KB.out hCb);have HRb:=Qf hRb;clear hRb hCb HS7 HR7 HCB
         have hos:wb.ownsRow BB 3 1 (.slice va ll vc) ll (VA l):=by
          have h:=HSb.out.own;unfold OwnN at h
          rwa [Hll.out] at h
         have hbsw:=HSb.out.sz
         go_wp2_with (first
          |(at_builtin;go_must (refine Vl rfl (.tmp 89) (.tmp 92) rfl BB (.slice va ll vc) ll (VA l) hos rfl kk rfl (by omega) (by omega) hbsw ?_;intro v8 w8 hown8 hg8;have hb8:=Yb hos hg8 hbsw;have HS8:=Qf (HSb.out.app KB.out hb8 (OwnN.add (m:=List.replicate kk 0) hown8 Hll.out (by simp) (by rw[Jd];rfl)));have HR8:=Qf (HRb.out.below hb8 KB.out.rb KB.out.pb);clear hown8 hg8 hb8 hos hbsw HSb HRb))
          |fail)
         have Hl2:Hid (∀y ∈ l++List.replicate kk 0,y<=15):=fun y hy=>by
          rcases List.mem_append.1 hy with h|h
          . exact Hl.out y h
          rw[List.eq_of_mem_replicate h];decide
         have HTR:=HL8;have cm9:Ym w8 ⟨P,1,none⟩=(p1+3):=Yf ((Blk.cell HR8.out.2.1 1).trans rfl);have Hcm9:=Qf cm9;clear cm9;go_roundw
         case rel=>exact⟨(l++List.replicate kk 0),(p1+3),e2,f,by have:=Hll.out;simp;omega,by omega,HS8,Hl2,HR8,(fun _=>by have:=Hff.out;omega),HTR⟩
         rw[Hcm9.out,Hcm.out];omega
       have d17:((v:Int)==17)=false:=(by simp;omega);by_cases h18:v=18
       . subst h18
         have CB:=VP R P s p1 z most 0 7 (by decide) hs (by omega) w7 HR7.out;have hvb:YI s p1 7<128:=Nat.mod_lt _ (by decide)
         have HL8:Hid (LR s RES (p1+7) z (Y5 s p1 7 0) (fun σ=>Yc (YL K need f σ (l++List.replicate (11+YI s p1 7) 0)) D6)):=by
          have h1:LR s RES p1 z 0 (fun σ=>Yc (Yy 7 σ) (fun b σ1=>Yc (YL K need f σ1 (l++List.replicate (11+b) 0)) D6)):=by
           refine HL7.out.congr ?_;show Yc (Yc (Yc (Yy 7 (sg s p1 z)) _) _) _=_;rw[Yi,Yi];rfl
          exact h1.bits
         obtain⟨vb,Hvb⟩:=Qi (YI s p1 7);obtain⟨e2,He2⟩:=Qi (Y5 s p1 7 0);rw[Hvb.out,He2.out] at CB HL8;rw[Hvb.out] at hvb;obtain⟨kk,Hkk⟩:=Qi (11+vb);rw[Hkk.out] at HL8
         have hkb:11<=kk/\kk<=138:=by have:=Hkk.out;omega
         have hwk:IntKind.i64.wrap (11+(vb:Int))=(kk:Int):=(by rw[show 11+(vb:Int)=(kk:Int) by have:=Hkk.out;omega];exact IntWalk.i64_in _ (by omega));have HCB:=Qf CB;clear CB HL7;go_wp2_with fail;refine HCB.out.mono ?_;rintro r wb ⟨rfl,hRb,hCb⟩;have HSb:=Qf (HS7.out.rch KB.out hCb);have HRb:=Qf hRb;clear hRb hCb HS7 HR7 HCB
         have hos:wb.ownsRow BB 3 1 (.slice va ll vc) ll (VA l):=by
          have h:=HSb.out.own;unfold OwnN at h
          rwa [Hll.out] at h
         have hbsw:=HSb.out.sz
         go_wp2_with (first
          |(at_builtin;go_must (refine Vl rfl (.tmp 96) (.tmp 99) rfl BB (.slice va ll vc) ll (VA l) hos rfl kk rfl (by omega) (by omega) hbsw ?_;intro v8 w8 hown8 hg8;have hb8:=Yb hos hg8 hbsw;have HS8:=Qf (HSb.out.app KB.out hb8 (OwnN.add (m:=List.replicate kk 0) hown8 Hll.out (by simp) (by rw[Jd];rfl)));have HR8:=Qf (HRb.out.below hb8 KB.out.rb KB.out.pb);clear hown8 hg8 hb8 hos hbsw HSb HRb))
          |fail)
         have Hl2:Hid (∀y ∈ l++List.replicate kk 0,y<=15):=fun y hy=>by
          rcases List.mem_append.1 hy with h|h
          . exact Hl.out y h
          rw[List.eq_of_mem_replicate h];decide
         have HTR:=HL8;have cm9:Ym w8 ⟨P,1,none⟩=(p1+7):=Yf ((Blk.cell HR8.out.2.1 1).trans rfl);have Hcm9:=Qf cm9;clear cm9;go_roundw
         case rel=>exact⟨(l++List.replicate kk 0),(p1+7),e2,f,by have:=Hll.out;simp;omega,by omega,HS8,Hl2,HR8,(fun _=>by have:=Hff.out;omega),HTR⟩
         rw[Hcm9.out,Hcm.out];omega
       have d18:((v:Int)==18)=false:=by simp;omega
       have HL8:Hid (LR s RES p1 z 0 (fun σ=>Yc (YL K need f σ (l++[v])) D6)):=by
        refine HL7.out.congr ?_;unfold Jj;rw[if_neg h16,if_neg h17,if_neg h18];rfl
       have hos:w7.ownsRow BB 3 1 (.slice va ll vc) ll (VA l):=by
        have h:=HS7.out.own;unfold OwnN at h
        rwa [Hll.out] at h
       have hbsw:=HS7.out.sz
       have hone:∀u ∈ ([.int .i64 (v:Int)]:List Value),u.oneCell'=true:=by
        intro u hu;simp at hu;subst hu;rfl
       go_wp2_with (first
        |(at_builtin;go_must (refine Ya _ rfl (.tmp 65) (.tmp 67) rfl Tryz.underlying113 Y9 rfl (by decide) BB (.slice va ll vc) ll (VA l) [.int .i64 (v:Int)] hos rfl hone rfl rfl rfl ?_ ?_ hbsw ?_;(unfold maxLen;omega);omega;intro v8 w8 hown8 hg8;have hb8:=Yb hos hg8 hbsw;have HS8:=Qf (HS7.out.app KB.out hb8 (OwnN.add (m:=[v]) hown8 Hll.out rfl rfl));have HR8:=Qf (HR7.out.below hb8 KB.out.rb KB.out.pb);clear hown8 hg8 hb8 hos hbsw hone HS7 HR7))
        |fail)
       have Hl2:Hid (∀y ∈ l++[v],y<=15):=fun y hy=>by
        rcases List.mem_append.1 hy with h|h
        . exact Hl.out y h
        rw[List.mem_singleton.1 h];omega
       have HTR:=HL8;have cm9:Ym w8 ⟨P,1,none⟩=p1:=Yf ((Blk.cell HR8.out.2.1 1).trans rfl);have Hcm9:=Qf cm9;clear cm9;go_roundw
       case rel=>exact⟨(l++[v]),p1,0,f,by have:=Hll.out;simp;omega,by omega,HS8,Hl2,HR8,(fun _=>by have:=Hff.out;omega),HTR⟩
       rw[Hcm9.out,Hcm.out];omega
     obtain⟨dl,dl2⟩:=Ql (show need<=ll by omega);have hfin:=YdZ K need f (sg s p z) l (by rw[Hll.out];exact hlen);rw[hfin] at hKK
     have HD:Hid ((if need<ll\/l.getD 256 0=0 then .error 3 else .ok ((l,nl),sg s p z))=RES):=by
      show _=_;rw[<-hKK,<-Hll.out];exact(HD6.out l (sg s p z)).symm
     obtain⟨G,rfl,hG1,hG2,hG3,hG4⟩:=OwnN.pos HS.out.own Hll.out (by omega);have h256:=hG4 256 (by omega);obtain⟨y,Hy⟩:=Qi (l.getD 256 0);rw[Hy.out] at h256 HD;have h256I:(256:Int)<(ll:Int):=(by omega);have HG4:=Qf hG4;clear hKK hfin hG4 HL Hf;by_cases hbig:need<ll
     . obtain⟨db,db2⟩:=Qj (show need<ll by omega)
       have HE:Hid (RES=.error 3):=by show _=_;rw[<-HD.out,if_pos (.inl hbig)]
       go_wp2_with fail;refine(Vo R P s p z most 0 3 _ HR.out).mono ?_;rintro r w8 ⟨rfl,hR8,hC8⟩;have HR8:Hid (RdAt w8 R P s p z most 3):=hR8;have HC8:=Qf (HS.out.ch.trans hC8);have c3:=HR8.out.1.cell 3;simp at c3;clear hR8 hC8;go_wp2_with fail;go_ret2;exact LenPost.bad _ _ HC8.out (by decide) HE.out HR8.out
     obtain⟨db,db2⟩:=Ql (show ll<=need by omega);by_cases hy:y=0
     . subst hy
       have HE:Hid (RES=.error 3):=by show _=_;rw[<-HD.out,if_pos (.inr rfl)]
       go_wp2_with fail;refine(Vo R P s p z most 0 3 _ HR.out).mono ?_;rintro r w8 ⟨rfl,hR8,hC8⟩;have HR8:Hid (RdAt w8 R P s p z most 3):=hR8;have HC8:=Qf (HS.out.ch.trans hC8);have c3:=HR8.out.1.cell 3;simp at c3;clear hR8 hC8;go_wp2_with fail;go_ret2;exact LenPost.bad _ _ HC8.out (by decide) HE.out HR8.out
     have dy:((y:Int)==0)=false:=by simp;omega
     have HE:Hid (RES=.ok ((l,nl),sg s p z)):=by show _=_;rw[<-HD.out,if_neg (by omega)]
     have hnlI:(nl:Int)<=(ll:Int)/\0<=(nl:Int):=(by omega);have hnlc:(nl:Int)<=(vc:Int):=(by omega);have hnlv:¬vc=nl:=(by omega);go_wp2_with fail
     go_quiet (fail)
     all_goals
      go_wp2_with fail;go_ret2;have hC9:=HS.out.ch.trans (Rch.drewN (R:=R) (P:=P) (w:=wr) nq);refine⟨hC9,_,_,rfl,.inr ⟨(l,nl),p,z,HE.out,hp8,hz,HR.out.drewN nq,some ⟨G,0,none⟩,vc,some ⟨G,nl,none⟩,vc-nl,?_,?_,?_,?_,Hl.out,by omega,?_,?_,?_⟩⟩
      . rfl
      . rw[Hll.out]
        first|rfl|simp
      . refine .inr ⟨G,0,rfl,hG2,fun i hi=>?_⟩
        rw[Nat.zero_add];show wr.cell? ⟨G,i,none⟩=_;rw[HG4.out i (by omega)];unfold lenF;have hi2:i<(l.take nl).length:=(by rw[List.length_take,Hll.out];omega);have hi3:i<l.length:=(by rw[Hll.out];omega);simp[List.getD,List.getElem?_take_of_lt hi,hi3]
      . refine .inr ⟨G,nl,rfl,hG2,fun i hi=>?_⟩
        have hi':i<l.length-nl:=hi;rw[Hll.out] at hi';show wr.cell? ⟨G,nl+i,none⟩=_;rw[HG4.out (nl+i) (by omega)];unfold lenF;simp[List.getD]
      . show l.length-nl<=30
        rw[Hll.out];have:=Hdecl.out;omega
      . intro b off sp eq
        injection eq with eq;injection eq with eq;omega
      intro b off sp eq;injection eq with eq;injection eq with eq;omega
   have HE:Hid (RES=.error e):=by
    rcases HL.out with⟨h,_⟩|⟨_,h⟩
    . exact absurd h he
    exact h
   have de:((e:Int)==0)=false:=by simp;omega
   have de2:((e:Int)!=0)=true:=by simp;omega
   by_cases hlen:ll<need
   . obtain⟨dl,dl2⟩:=Qj (show ll<need by omega)
     go_wp2_with fail;go_ret2;exact LenPost.bad _ _ HS.out.ch he HE.out HR.out
   obtain⟨dl,dl2⟩:=Ql (show need<=ll by omega);go_wp2_with fail;go_ret2;exact LenPost.bad _ _ HS.out.ch he HE.out HR.out
 have HE:Hid (RES=.error e):=by
  rcases HK.out with⟨h,_⟩|⟨_,h⟩
  . exact absurd h he
  exact h
 go_wp2_with fail;refine(UM R P s p z most e he _ wr HR.out).mono ?_;rintro r w6 ⟨rfl,hR6,hC6⟩;have HR6:=Qf hR6;have HC6:=Qf (HC.out.trans hC6);clear hR6 hC6 HR HC HK;go_wp2_with fail
 go_loopw [11] (fun v_ wr=>v_=.slice none 0 0/\wr=w6) (fun _ _=>0)
 case atStart=>exact⟨rfl,rfl⟩
 obtain⟨rfl,hw2⟩:=hrel;have hw3:=hw2.symm;subst hw3;have c3:=HR6.out.1.cell 3;simp at c3;have hws:IntKind.i64.wrap ((nl:Int)+(nd:Int))=(nl:Int)+(nd:Int):=IntWalk.i64_in _ (by omega);have dz:decide (0<(nl:Int)+(nd:Int))=true:=Qg (by omega);have de:((e:Int)==0)=false:=by simp;omega
 have de2:((e:Int)!=0)=true:=by simp;omega
 go_wp2_with fail;go_ret2;exact LenPost.bad _ _ HC6.out (by first|assumption|decide) HE.out HR6.out
end Go.Proofs.YthehocmfpoglgaaGreat
