/- inflate.Blocks. Printed by gen_rblk.py. Conditions: texts of at most a hundred thousand bytes. -/
import Derived.Test.YthehocmfpoglgaaGreatRBlkKJ
import Derived.Test.YthehocmfpoglgaaGreatJddomja
namespace Go.Proofs.YthehocmfpoglgaaGreat
open Go.RowKit
set_option maxRecDepth 100000
noncomputable def Y4 (most last k:Nat) (σ2:Sg):Rs (Nat × Bk):=
 if k=0 then Yc (Vz most σ2) fun s σ3=>.ok ((last,⟨0,s,[]⟩),σ3)
 else if k=1 then Yc (Vc fixL 288 (fun _=>5) 32 most σ2) fun S σ3=>.ok ((last,⟨1,[],S⟩),σ3)
 else if k=2 then Yc (dynM σ2) fun l σ3=>Yc (Vc (lenF (l.1.take l.2)) l.2 (lenF (l.1.drop l.2)) (l.1.length-l.2) most σ3) fun S σ4=>.ok ((last,⟨2,[],S⟩),σ4)
 else .error 3
noncomputable def Xb (most f:Nat) (bs:List Bk) (r:Nat × Bk) (σ1:Sg):Rs (List Bk):=if r.1=0 then VJ most f σ1 (bs++[r.2]) else .ok (bs++[r.2],σ1)
theorem Ydo (most f:Nat) (σ:Sg) (bs:List Bk):VJ most (f+1) σ bs=Yc (Yy 1 σ) fun last σ1=>Yc (Yy 2 σ1) fun k σ2=>Yc (Y4 most last k σ2) (Xb most f bs):=by
 show Yc (Yc _ _) _=_;rw[Yi]
 congr 1
 funext last σ1;rw[Yi];rfl
def BR (most:Nat) (u:ByteArray) (RES:Rs (List Bk)) (p z e t:Nat) (bs:List Bk):Prop:=
 (e=0/\p<=8*u.size/\z<=most/\((t=0/\∃fu,8*u.size-p<fu/\VJ most fu (sg u p z) bs=RES)\/(t ≠ 0/\RES=.ok (bs,sg u p z))))\/(e ≠ 0/\RES=.error e)
theorem BR.step {most:Nat} {u:ByteArray} {RES:Rs (List Bk)} {p z:Nat} {bs:List Bk} (h:BR most u RES p z 0 0 bs) :
 p<=8*u.size/\z<=most/\∃f,8*u.size-p<f+1/\LR u RES p z 0 (fun σ=>Yc (Yy 1 σ) fun last σ1=>Yc (Yy 2 σ1) fun k σ2=>Yc (Y4 most last k σ2) (Xb most f bs)):=by
 rcases h with⟨_,h1,h2,⟨_,fu,h3,h4⟩|⟨h3,_⟩⟩|⟨h,_⟩
 . obtain⟨f,rfl⟩:∃f,fu=f+1:=⟨fu-1,by omega⟩
   exact⟨h1,h2,f,h3,.inl ⟨rfl,h1,by rw[<-h4,Ydo]⟩⟩
 . exact absurd rfl h3
 exact absurd rfl h
theorem BR.next {most:Nat} {u:ByteArray} {RES:Rs (List Bk)} {p p3 z p' z' t k f:Nat} {bs:List Bk} {bk:Bk} (h:LR u RES p3 z 0 (fun σ=>Yc (Y4 most t k σ) (Xb most f bs))) (hf:8*u.size-p<f+1)
 (hc:Y4 most t k (sg u p3 z)=.ok ((t,bk),sg u p' z')) (hp:p<p') (hp':p'<=8*u.size) (hz':z'<=most):BR most u RES p' z' 0 t (bs++[bk]):=by
 have h2:=h.ok.2;rw[hc,Yj] at h2;unfold Xb at h2;refine .inl ⟨rfl,hp',hz',?_⟩;by_cases ht:t=0
 . rw[if_pos ht] at h2
   exact .inl ⟨ht,f,by omega,h2⟩
 rw[if_neg ht] at h2;exact .inr ⟨ht,h2.symm⟩
theorem BR.fail {most:Nat} {u:ByteArray} {RES:Rs (List Bk)} {p3 z t k f x:Nat} {bs:List Bk} (h:LR u RES p3 z 0 (fun σ=>Yc (Y4 most t k σ) (Xb most f bs))) (hc:Y4 most t k (sg u p3 z)=.error x):RES=.error x:=
 h.bad (by rw[hc];rfl)
theorem Yb5 {l:List Nat} (h:∀y ∈ l,y<=15) (i:Nat):0<=lenF l i/\lenF l i<=15:=by
 unfold lenF;refine⟨Int.natCast_nonneg _,?_⟩;rcases Nat.lt_or_ge i l.length with hi|hi
 . have e:l.getD i 0=l[i]:=by simp[List.getD,hi]
   rw[e];have:=h _ (List.getElem_mem hi);omega
 have e:l.getD i 0=0:=by simp[List.getD,hi]
 rw[e];decide
theorem YiV (i:Nat):0<=fixL i/\fixL i<=15:=by
 unfold fixL;split
 . decide
 split
 . decide
 split<;>decide
def YmU (w:World) (u:ByteArray) (most:Nat) (res:Rs (List Bk)) (r:Ending) (w':World):Prop:=
 Below w.heap.size w w'/\((∃e,e ≠ 0/\res=.error e/\r=.returned (.tuple #[.slice none 0 0,.int .i64 0,.int .i64 (e:Int)]))\/
  (∃l p z v BB,res=.ok (l.map LBk.b,sg u p z)/\p<=8*u.size/\z<=most/\r=.returned (.tuple #[v,.int .i64 (((p+7)/8:Nat):Int),.int .i64 0])/\w.heap.size<=BB/\BS w BB v l w'))
set_option maxHeartbeats 64000000 in
theorem Yjl (s:ByteArray) (hs:s.size<=100000) (q most:Nat) (hq:q<=s.size) (hm:most<=65536) (w:World) :
 Calls Tryz.prog 50 #[.string s,.int .i64 (q:Int),.int .i64 (most:Int)] w (YmU w (s.extract q s.size) most (VJ most (8*(s.extract q s.size).size+1) (sg (s.extract q s.size) 0 0) [])):=by
 have d1:decide ((q:Int)<0)=false:=Qh (by omega);obtain⟨d2,d2b⟩:=Ql (show q<=s.size by omega);have d3:decide ((most:Int)<0)=false:=Qh (by omega);have d4:decide ((65536:Int)<(most:Int))=false:=Qh (by omega);have d4b:decide (65536<most)=false:=Qh (by omega);have hqI:(q:Int)<=(s.size:Int)/\0<=(q:Int):=by omega
 have hus:(s.extract q s.size).size<=100000:=by rw[ByteArray.size_extract];omega
 obtain⟨u,Hu⟩:=Qi (s.extract q s.size);have CO:=YhF (s.extract q s.size) w;rw[Hu.out] at hus CO ⊢;obtain⟨RES,HRES⟩:=Qi (VJ most (8*u.size+1) (sg u 0 0) []);rw[HRES.out];have hu:=Hu.out;have HCO:=Qf CO;have HBR0:Hid (BR most u RES 0 0 0 0 []):=.inl ⟨rfl,by omega,by omega,.inl ⟨rfl,_,by omega,HRES.out⟩⟩;obtain⟨P,HP⟩:=Qi (w.heap.size);have hwP:w.heap.size<=P:=by rw[HP.out];exact Qa _
 rw[HP.out] at HCO;clear CO HRES;go_enter Tryz.func50,Tryz.ntmps50;go_wp2_with fail
 (try rw[hu])
 refine HCO.out.mono ?_;rintro r w1 ⟨rfl,hS1,hb1⟩;have hPw1:=hS1.lt;have hbl:=(Below.refl w1.heap.size w1).alloc (Qa _) (.cells #[.pointer (some ⟨P,0,none⟩),.int .i64 0,.int .i64 (most:Int),.int .i64 0] 141);have HR2:Hid (RdAt (w1.alloc (.cells #[.pointer (some ⟨P,0,none⟩),.int .i64 0,.int .i64 (most:Int),.int .i64 0] 141)) w1.heap.size P u 0 0 most 0):=⟨Blk.new _ _ _,hS1.below hbl hPw1,by omega⟩;have hb1':Below w.heap.size w w1:=by rw[HP.out];exact hb1
 have HB2:=Qf (hb1'.trans (hbl.mono hb1'.size));obtain⟨R,HRR⟩:=Qi (w1.heap.size);have hwR:w.heap.size<=R:=by rw[<-HRR.out];exact hb1'.size
 have hRs:R<(w1.alloc (.cells #[.pointer (some ⟨P,0,none⟩),.int .i64 0,.int .i64 (most:Int),.int .i64 0] 141)).heap.size:=by rw[<-HRR.out];exact HR2.out.1.lt
 have hPs:=HR2.out.2.1.lt;rw[HRR.out] at HR2 hPw1;clear hbl hb1' hb1 hS1 HCO hu;go_wp2_with fail
 (try rw[HRR.out])
 obtain⟨w2,HW2⟩:=Qi (w1.alloc (.cells #[.pointer (some ⟨P,0,none⟩),.int .i64 0,.int .i64 (most:Int),.int .i64 0] 141));rw[HW2.out] at HR2 HB2 hRs hPs ⊢;obtain⟨BB,HBB⟩:=Qi (w2.heap.size);have HS2:Hid (BS w BB (.slice none 0 0) [] w2):=⟨World.ownsRow_nil _ _ _ _,(fun x hx=>by cases hx),(fun x hx=>by cases hx),HB2.out,by rw[HBB.out];exact Qa _⟩;rw[HBB.out] at hRs hPs;have hwBB:w.heap.size<=BB:=by omega
 clear HW2 HRR HBB HB2 d1 d2 d2b d3 d4 d4b hqI HP
 go_loopw [10,11] (fun v_ t_ wr=>∃(p z e t:Nat) (l:List LBk),t_=.int .i64 (t:Int)/\l.length<=p/\Hid (RdAt wr R P u p z most e)/\Hid (e=0->BS w BB v_ l wr)/\Hid (Below w.heap.size w wr)/\Hid (BR most u RES p z e t (l.map LBk.b))) (fun _ _ wr=>if Ym wr ⟨R,3,none⟩=0 then 8*u.size+2-Ym wr ⟨P,1,none⟩ else 0)
 case atStart=>exact⟨0,0,0,0,[],rfl,Qa _,HR2,(fun _=>HS2.out),HS2.out.bel,HBR0⟩
 clear HR2 HS2 HBR0;obtain⟨p,z,e,t,l,rfl,hlp,HR,HSe,HBl,HBR⟩:=hrel;have c3:=HR.out.1.cell 3;have c0:=HR.out.1.cell 0;simp at c3 c0;by_cases he:e=0
 . subst he
   have HS:Hid (BS w BB u10 l wr):=HSe.out (by first|rfl|trivial);have cm:=Yf (n:=p) (by simpa using Blk.cell HR.out.2.1 1);have cm3:Ym wr ⟨R,3,none⟩=0:=Yf (n:=0) (by simpa using HR.out.1.cell 3);have Hcm:=Qf cm;have Hcm3:=Qf cm3;clear cm cm3 HSe;by_cases ht:t=0
   . subst ht
     obtain⟨hp8,hzm,f,hf,hL0⟩:=HBR.out.step;have hL1:=hL0.bits;have CB1:=VP R P u p z most 0 1 (by decide) hus (by omega) wr HR.out;have hv1:YI u p 1<2:=Nat.mod_lt _ (by decide);have hL2:=hL1.bits;have hv2:YI u (p+1) 2<4:=Nat.mod_lt _ (by decide)
     have hv2e:Y5 u (p+1) 2 (Y5 u p 1 0) ≠ 0->YI u (p+1) 2<2:=by
      intro hne
      have hle:8*u.size<p+1+2:=by
       rcases Nat.lt_or_ge (8*u.size) (p+1+2) with h|h
       . exact h
       exfalso;refine hne ?_;unfold Y5;rw[if_neg (by omega),if_neg (by omega)]
      unfold YI
      have h1:num u/2^(p+1)<2:=by
       have h2:num u<2^(8*u.size):=by
        have:=Uj u.data.toList;rw[Nat.pow_mul];unfold num
        simpa using this
       rw[Nat.div_lt_iff_lt_mul (Nat.two_pow_pos _)];have h3:2^(8*u.size)<=2^(p+1+1):=Nat.pow_le_pow_right (by decide) (by omega);have h4:(2:Nat)^(p+1+1)=2*2^(p+1):=(by rw[Nat.pow_succ];omega);omega
      have:=Nat.mod_le (num u/2^(p+1)) (2^2);omega
     obtain⟨v1,Hv1⟩:=Qi (YI u p 1);obtain⟨e1,He1⟩:=Qi (Y5 u p 1 0);rw[Hv1.out,He1.out] at CB1;rw[Hv1.out] at hv1 hL2;rw[He1.out] at hv2e hL2;have CB2:=fun W hR=>VP R P u (p+1) z most e1 2 (by decide) hus (by omega) W hR;obtain⟨v2,Hv2⟩:=Qi (YI u (p+1) 2);obtain⟨e2,He2⟩:=Qi (Y5 u (p+1) 2 e1);simp only[Hv2.out,He2.out] at CB2;rw[Hv2.out,He2.out] at hv2e hL2;rw[Hv2.out] at hv2;obtain⟨p3,Hp3⟩:=Qi (p+1+2);rw[Hp3.out] at hL2;simp only[Hp3.out] at CB2
     have hp3:p+3=p3:=by have:=Hp3.out;omega
     have hp3b:p<p3/\p3<=800003:=(by omega);have H1:=Qf CB1;have H2:=Qf CB2;have HL:=Qf hL2;have Hv2e:=Qf hv2e;have Hp3e:=Qf hp3;clear hL0 hL1 hL2 CB1 CB2 hv2e Hv1 Hv2 He1 He2 Hp3 hp3;go_wp2_with fail;refine H1.out.mono ?_;rintro r wa ⟨rfl,hRa,hCa⟩;have HRa:=Qf hRa;have HCa:=Qf hCa;clear hRa hCa;go_wp2_with fail;refine(H2.out _ HRa.out).mono ?_;rintro r wA ⟨rfl,hRA,hCA⟩;have HSA:=Qf (HS.out.rch (HCa.out.trans hCA) hRs hPs hwR hwP);have HRA:=Qf hRA;clear hRA hCA HRa HCa H1 H2 HS HR HBl c3 c0;have hbl:=(Below.refl wA.heap.size wA).alloc (Qa _) (.cells #[.int .i64 (v2:Int),.string ⟨#[]⟩,.slice none 0 0] 144);have HR4:=Qf (HRA.out.keep hbl);have HC4:Hid (Rch R P wA (wA.alloc (.cells #[.int .i64 (v2:Int),.string ⟨#[]⟩,.slice none 0 0] 144))):=Rch.below hbl (Qa _);have HB4:=Qf (Blk.new wA 144 #[.int .i64 (v2:Int),.string ⟨#[]⟩,.slice none 0 0]);have hvt:∀g,u10.ownBlock=some g->g<wA.heap.size:=fun g e=>(World.ownsRow.lt HSA.out.own g e).2;have htb:BB<=wA.heap.size:=HSA.out.sz;have Hvt:=Qf hvt;obtain⟨w4,HW4⟩:=Qi (wA.alloc (.cells #[.int .i64 (v2:Int),.string ⟨#[]⟩,.slice none 0 0] 144));have hw4s:wA.heap.size<=w4.heap.size:=(by rw[<-HW4.out];exact hbl.size);rw[HW4.out] at HR4 HC4 HB4;have Htbe:Hid (wA.heap.size=wA.heap.size):=rfl;have ntb:wA.heap.size ≠ R/\wA.heap.size ≠ P:=(by omega);have k0:=HB4.out.cell 0;simp at k0;have Hws:=Qf hw4s;clear hbl hvt HRA hw4s;by_cases he2:e2=0
     . subst he2
       have hp38:=HL.out.ok.1;have hv2c:v2=0\/v2=1\/v2=2\/v2=3:=(by omega);clear Hv2e hv2;rcases hv2c with rfl|rfl|rfl|rfl
       . go_wp2_with fail
         rw[show wA.alloc (.cells #[.int .i64 0,.string ⟨#[]⟩,.slice none 0 0] 144)=w4 from HW4.out];refine(YjT R P u p3 z most hus hp38 hzm (by omega) w4 HR4.out).mono ?_;rintro r w5 ⟨hC5,⟨tx,rfl⟩,hres⟩;have HB5:=Qf (hC5.blk HB4.out ntb.1 ntb.2);have HC5:=Qf (HC4.out.trans hC5);have Hres:=Qf hres;clear hC5 HB4 HC4 HR4 hres;have q0:=HB5.out.cell 0;have q1:=HB5.out.cell 1;have q2:=HB5.out.cell 2;have gf:=HB5.out.frozen 1;simp at q0 q1 q2
         have HBt:Hid (Blk (w5.setCell ⟨wA.heap.size,1,none⟩ (.string tx)) wA.heap.size 144 #[.int .i64 0,.string tx,.slice none 0 0]):=by
          show Blk _ _ _ _;have:=HB5.out.set_ 1 (.string tx)
          simpa using this
         have hbs:Below wA.heap.size w5 (w5.setCell ⟨wA.heap.size,1,none⟩ (.string tx)):=(Below.refl wA.heap.size w5).setCell (p:=⟨wA.heap.size,1,none⟩) (Qa _) _;have HCt:=Qf (HC5.out.then_below hbs (Qa _));have Hrd:Hid (∀p z e,RdAt w5 R P u p z most e->RdAt (w5.setCell ⟨wA.heap.size,1,none⟩ (.string tx)) R P u p z most e):=fun p z e h=>h.below hbs (by omega) (by omega);clear hbs HB5 HC5;rcases Hres.out with⟨x,p5,z5,hxe,hx,hR5⟩|⟨lb,p',z',hxe,hp',hz',hR5,htx⟩
         . have HE:Hid (RES=.error x):=BR.fail HL.out (by unfold Y4;rw[if_pos rfl,hxe];rfl)
           have HRt:=Qf (Hrd.out _ _ _ hR5);have HSt:=Qf (HSA.out.rch HCt.out hRs hPs hwR hwP);have hos:=HSt.out.own;have hbsw:=HSt.out.sz;have hone:=VG 0 tx none 0 0
           go_wp2_with (first
            |(at_builtin;go_must (refine Yd _ rfl (.tmp 76) (.tmp 78) rfl Tryz.underlying95 Xi rfl (by decide) BB u10 l.length (YF l) [.int .i64 0,.string tx,.slice none 0 0] hos rfl hone rfl rfl (by first|rfl|simp) ?_ ?_ hbsw ?_;(unfold maxLen;omega);omega;intro v8 w8 hown8 hg8 hn8;have hb8:=Yb hos hg8 hbsw;have HR8:=Qf (HRt.out.below hb8 hRs hPs);have HBl8:=Qf (HSt.out.bel.trans (hb8.mono hwBB));clear hown8 hg8 hb8 hn8 hos hbsw hone))
            |fail)
           have cm8:Ym w8 ⟨R,3,none⟩=x:=Yf ((Blk.cell HR8.out.1 3).trans rfl);have Hcm8:=Qf cm8;clear cm8;go_roundw
           case rel=>exact⟨p5,z5,x,v1,[],rfl,Nat.zero_le _,HR8,(fun h=>absurd h (by first|assumption|decide)),HBl8,.inr ⟨by first|assumption|decide,HE.out⟩⟩
           rw[Hcm8.out,Hcm3.out,Hcm.out,if_neg (by first|assumption|decide),if_pos rfl];omega
         obtain rfl:tx=⟨lb.toArray⟩:=(by injection htx with h;injection h);have HRt:=Qf (Hrd.out _ _ _ hR5);have HSt:=Qf (HSA.out.rch HCt.out hRs hPs hwR hwP);have hos:=HSt.out.own;have hbsw:=HSt.out.sz;have hone:=VG 0 ⟨lb.toArray⟩ none 0 0;have HLT:Hid (LTk (w5.setCell ⟨wA.heap.size,1,none⟩ (.string ⟨lb.toArray⟩)) BB ⟨⟨0,lb,[]⟩,none,0⟩):=⟨.inl rfl,fun b off sp e=>by cases e⟩
         have HXA:Hid (∀b off sp,(⟨⟨0,lb,[]⟩,none,0⟩:LBk).a=some ⟨b,off,sp⟩->wA.heap.size<=b):=fun b off sp e=>by cases e
         have HBN:Hid (BR most u RES p' z' 0 v1 (l.map LBk.b++[(⟨⟨0,lb,[]⟩,none,0⟩:LBk).b])):=BR.next (p:=p) HL.out hf (by
          unfold Y4
          rw[if_pos rfl,hxe];rfl) (by
          have:=KI most (sg u p3 z) _ _ hxe;have e1:(sg u p' z').n=8*u.size-p':=rfl;have e2:(sg u p3 z).n=8*u.size-p3:=rfl;rw[e1,e2] at this;have:=Hp3e.out
          omega) hp' hz'
         have hpp:p+3<=p':=by
          have:=KI most (sg u p3 z) _ _ hxe;have e1:(sg u p' z').n=8*u.size-p':=rfl;have e2:(sg u p3 z).n=8*u.size-p3:=rfl;rw[e1,e2] at this;have:=Hp3e.out;omega
         go_wp2_with (first
          |(at_builtin;go_must (refine Yd _ rfl (.tmp 76) (.tmp 78) rfl Tryz.underlying95 Xi rfl (by decide) BB u10 l.length (YF l) [.int .i64 0,.string ⟨lb.toArray⟩,.slice none 0 0] hos rfl hone rfl rfl (by first|rfl|simp) ?_ ?_ hbsw ?_;(unfold maxLen;omega);omega;intro v8 w8 hown8 hg8 hn8;have hb8:=Yb hos hg8 hbsw;have HR8:=Qf (HRt.out.below hb8 hRs hPs);have HS8:=Qf (BS.app (x:=⟨⟨0,lb,[]⟩,none,0⟩) (wa:=wA) HSt.out hwBB hg8 hown8 hn8 HLT.out Hvt.out HXA.out);clear hown8 hg8 hb8 hn8 hos hbsw hone))
          |fail)
         have cm8:Ym w8 ⟨R,3,none⟩=0:=Yf (n:=0) ((Blk.cell HR8.out.1 3).trans rfl);have Hcm8:=Qf cm8;have cm9:Ym w8 ⟨P,1,none⟩=p':=Yf ((Blk.cell HR8.out.2.1 1).trans rfl);have Hcm9:=Qf cm9;clear cm8 cm9;go_roundw
         case rel=>exact⟨p',z',0,v1,l++[⟨⟨0,lb,[]⟩,none,0⟩],rfl,(by rw[List.length_append];show l.length+1<=p';omega),HR8,(fun _=>HS8.out),HS8.out.bel,(by rw[List.map_append];exact HBN)⟩
         rw[Hcm8.out,Hcm9.out,Hcm3.out,Hcm.out,if_pos rfl,if_pos rfl];omega
       . go_wp2_with fail
         rw[show wA.alloc (.cells #[.int .i64 1,.string ⟨#[]⟩,.slice none 0 0] 144)=w4 from HW4.out];refine(Xe w4).mono ?_;rintro r wL ⟨g1,cg1,g2,rfl,hI1,hI2,hg1,hg2,hbL⟩;have HRL:=Qf (HR4.out.keep hbL);have HBL:=Qf (HB4.out.below hbL HB4.out.lt);have HCL:=Qf (HC4.out.then_below hbL Hws.out);have HI1:=Qf hI1;have HI2:=Qf hI2;have hwsL:wA.heap.size<=wL.heap.size:=Qe Hws.out hbL.size
         have ng:g1 ≠ R/\g1 ≠ P/\g2 ≠ R/\g2 ≠ P:=by have:=Hws.out;omega
         clear hI1 hI2 hbL HR4 HB4 HC4;go_wp2_with fail;refine(Yev fixL 288 (fun i _=>YiV i) (by decide) (fun _=>5) 32 (fun i _=>by decide) (by decide) (some ⟨g1,0,none⟩) (some ⟨g2,0,none⟩) cg1 32 R P u p3 z most hus hp38 hzm (by omega) wL HI1.out HI2.out (fun b off sp e=>by injection e with e;injection e with e;omega) HRL.out).mono ?_;rintro r w5 ⟨hC5,S,ta,tc,rfl,hTk,haddr,hres⟩;have HB5:=Qf (hC5.blk HBL.out ntb.1 ntb.2);have HC5:=Qf (HCL.out.trans hC5);have Hres:=Qf hres;have HTk5:=Qf hTk;have Haddr:=Qf haddr;have hLlt:=HBL.out.lt;clear hC5 HBL HCL HRL hres hTk haddr;have q0:=HB5.out.cell 0;have q1:=HB5.out.cell 1;have q2:=HB5.out.cell 2;have gf:=HB5.out.frozen 2;simp at q0 q1 q2
         have HBt:Hid (Blk (w5.setCell ⟨wA.heap.size,2,none⟩ (.slice ta S.length tc)) wA.heap.size 144 #[.int .i64 1,.string ⟨#[]⟩,.slice ta S.length tc]):=by
          show Blk _ _ _ _;have:=HB5.out.set_ 2 (.slice ta S.length tc)
          simpa using this
         have hbs:Below wA.heap.size w5 (w5.setCell ⟨wA.heap.size,2,none⟩ (.slice ta S.length tc)):=(Below.refl wA.heap.size w5).setCell (p:=⟨wA.heap.size,2,none⟩) (Qa _) _;have HCt:=Qf (HC5.out.then_below hbs (Qa _));have Hrd:Hid (∀p z e,RdAt w5 R P u p z most e->RdAt (w5.setCell ⟨wA.heap.size,2,none⟩ (.slice ta S.length tc)) R P u p z most e):=fun p z e h=>h.below hbs (by omega) (by omega);have HTkt:Hid (TkRow (w5.setCell ⟨wA.heap.size,2,none⟩ (.slice ta S.length tc)) ta S):=HTk5.out.grown (Kc w5 ⟨wA.heap.size,2,none⟩ _) (fun _ b off sp e e2=>by injection e2 with e2;have e3:b=wA.heap.size:=e2;have:=Haddr.out b off sp e;omega);clear hbs HB5 HC5;rcases Hres.out with⟨x,p5,z5,hxe,hx,hR5⟩|⟨S',p',z',hxe,hp',hz',hR5,rfl⟩
         . have HE:Hid (RES=.error x):=BR.fail HL.out (by
            unfold Y4
            rw[if_neg (by decide),if_pos rfl];rw[hxe];rfl)
           have HRt:=Qf (Hrd.out _ _ _ hR5);have HSt:=Qf (HSA.out.rch HCt.out hRs hPs hwR hwP);have hos:=HSt.out.own;have hbsw:=HSt.out.sz;have hone:=VG 1 ⟨#[]⟩ ta S.length tc
           go_wp2_with (first
            |(at_builtin;go_must (refine Yd _ rfl (.tmp 76) (.tmp 78) rfl Tryz.underlying95 Xi rfl (by decide) BB u10 l.length (YF l) [.int .i64 1,.string ⟨#[]⟩,.slice ta S.length tc] hos rfl hone rfl rfl (by first|rfl|simp) ?_ ?_ hbsw ?_;(unfold maxLen;omega);omega;intro v8 w8 hown8 hg8 hn8;have hb8:=Yb hos hg8 hbsw;have HR8:=Qf (HRt.out.below hb8 hRs hPs);have HBl8:=Qf (HSt.out.bel.trans (hb8.mono hwBB));clear hown8 hg8 hb8 hn8 hos hbsw hone))
            |fail)
           have cm8:Ym w8 ⟨R,3,none⟩=x:=Yf ((Blk.cell HR8.out.1 3).trans rfl);have Hcm8:=Qf cm8;clear cm8;go_roundw
           case rel=>exact⟨p5,z5,x,v1,[],rfl,Nat.zero_le _,HR8,(fun h=>absurd h (by first|assumption|decide)),HBl8,.inr ⟨by first|assumption|decide,HE.out⟩⟩
           rw[Hcm8.out,Hcm3.out,Hcm.out,if_neg (by first|assumption|decide),if_pos rfl];omega
         skip
         have HRt:=Qf (Hrd.out _ _ _ hR5);have HSt:=Qf (HSA.out.rch HCt.out hRs hPs hwR hwP);have hos:=HSt.out.own;have hbsw:=HSt.out.sz;have hone:=VG 1 ⟨#[]⟩ ta S'.length tc;have HLT:Hid (LTk (w5.setCell ⟨wA.heap.size,2,none⟩ (.slice ta S'.length tc)) BB ⟨⟨1,[],S'⟩,ta,tc⟩):=⟨HTkt.out,fun b off sp e=>by have h1:wA.heap.size<=b:=Qe (Nat.le_of_lt hLlt) (Haddr.out b off sp e);omega⟩;have HXA:Hid (∀b off sp,(⟨⟨1,[],S'⟩,ta,tc⟩:LBk).a=some ⟨b,off,sp⟩->wA.heap.size<=b):=fun b off sp e=>Qe (Nat.le_of_lt hLlt) (Haddr.out b off sp e)
         have HBN:Hid (BR most u RES p' z' 0 v1 (l.map LBk.b++[(⟨⟨1,[],S'⟩,ta,tc⟩:LBk).b])):=BR.next (p:=p) HL.out hf (by
          unfold Y4
          rw[if_neg (by decide),if_pos rfl];rw[hxe];rfl) (by
          have:=XW _ _ _ _ most (sg u p3 z) _ _ hxe;have e1:(sg u p' z').n=8*u.size-p':=rfl;have e2:(sg u p3 z).n=8*u.size-p3:=rfl;rw[e1,e2] at this;have:=Hp3e.out
          omega) hp' hz'
         have hpp:p+3<=p':=by
          have:=XW _ _ _ _ most (sg u p3 z) _ _ hxe;have e1:(sg u p' z').n=8*u.size-p':=rfl;have e2:(sg u p3 z).n=8*u.size-p3:=rfl;rw[e1,e2] at this;have:=Hp3e.out;omega
         go_wp2_with (first
          |(at_builtin;go_must (refine Yd _ rfl (.tmp 76) (.tmp 78) rfl Tryz.underlying95 Xi rfl (by decide) BB u10 l.length (YF l) [.int .i64 1,.string ⟨#[]⟩,.slice ta S'.length tc] hos rfl hone rfl rfl (by first|rfl|simp) ?_ ?_ hbsw ?_;(unfold maxLen;omega);omega;intro v8 w8 hown8 hg8 hn8;have hb8:=Yb hos hg8 hbsw;have HR8:=Qf (HRt.out.below hb8 hRs hPs);have HS8:=Qf (BS.app (x:=⟨⟨1,[],S'⟩,ta,tc⟩) (wa:=wA) HSt.out hwBB hg8 hown8 hn8 HLT.out Hvt.out HXA.out);clear hown8 hg8 hb8 hn8 hos hbsw hone))
          |fail)
         have cm8:Ym w8 ⟨R,3,none⟩=0:=Yf (n:=0) ((Blk.cell HR8.out.1 3).trans rfl);have Hcm8:=Qf cm8;have cm9:Ym w8 ⟨P,1,none⟩=p':=Yf ((Blk.cell HR8.out.2.1 1).trans rfl);have Hcm9:=Qf cm9;clear cm8 cm9;go_roundw
         case rel=>exact⟨p',z',0,v1,l++[⟨⟨1,[],S'⟩,ta,tc⟩],rfl,(by rw[List.length_append];show l.length+1<=p';omega),HR8,(fun _=>HS8.out),HS8.out.bel,(by rw[List.map_append];exact HBN)⟩
         rw[Hcm8.out,Hcm9.out,Hcm3.out,Hcm.out,if_pos rfl,if_pos rfl];omega
       . go_wp2_with fail
         rw[show wA.alloc (.cells #[.int .i64 2,.string ⟨#[]⟩,.slice none 0 0] 144)=w4 from HW4.out];refine(Yiy R P u p3 z most hus hp38 hzm w4 HR4.out).mono ?_;rintro r wL ⟨hCL,y1,y2,rfl,hresL⟩;have HBL:=Qf (hCL.blk HB4.out ntb.1 ntb.2);have HCL:=Qf (HC4.out.trans hCL);have hwsL:wA.heap.size<=wL.heap.size:=Qe Hws.out hCL.2.2.2.1;have hRPw4:R<w4.heap.size/\P<w4.heap.size:=⟨HR4.out.1.lt,HR4.out.2.1.lt⟩;clear hCL HB4 HC4 HR4;rcases hresL with⟨x,p5,z5,hxe,hx,hRL⟩|⟨⟨ll,nl⟩,pL,zL,hxeL,hpL,hzL,hRL,a1,ca1,a2,ca2,rfl,rfl,hIa1,hIa2,hl15,hnl,hnd,had1,had2⟩
         . have HE:Hid (RES=.error x):=BR.fail HL.out (by unfold Y4;rw[if_neg (by decide),if_neg (by decide),if_pos rfl,hxe];rfl)
           have HRL:=Qf hRL;clear hRL hxe;go_wp2_with fail;refine(YaV R P u p5 z5 most x hx _ _ wL HRL.out).mono ?_;rintro r w5 ⟨rfl,hR5,hC5⟩;have HB5:=Qf (hC5.blk HBL.out ntb.1 ntb.2);have HC5:=Qf (HCL.out.trans hC5);have HR5:=Qf hR5;clear hC5 hR5 HBL HCL HRL;have q0:=HB5.out.cell 0;have q1:=HB5.out.cell 1;have q2:=HB5.out.cell 2;have gf:=HB5.out.frozen 2;simp at q0 q1 q2
           have HBt:Hid (Blk (w5.setCell ⟨wA.heap.size,2,none⟩ (.slice none 0 0)) wA.heap.size 144 #[.int .i64 2,.string ⟨#[]⟩,.slice none 0 0]):=by
            show Blk _ _ _ _;have:=HB5.out.set_ 2 (.slice none 0 0)
            simpa using this
           have hbs:Below wA.heap.size w5 (w5.setCell ⟨wA.heap.size,2,none⟩ (.slice none 0 0)):=(Below.refl wA.heap.size w5).setCell (p:=⟨wA.heap.size,2,none⟩) (Qa _) _;have HCt:=Qf (HC5.out.then_below hbs (Qa _));have Hrd:Hid (∀p z e,RdAt w5 R P u p z most e->RdAt (w5.setCell ⟨wA.heap.size,2,none⟩ (.slice none 0 0)) R P u p z most e):=fun p z e h=>h.below hbs (by omega) (by omega);clear hbs HB5 HC5;have HRt:=Qf (Hrd.out _ _ _ HR5.out);have HSt:=Qf (HSA.out.rch HCt.out hRs hPs hwR hwP);have hos:=HSt.out.own;have hbsw:=HSt.out.sz;have hone:=VG 2 ⟨#[]⟩ none 0 0
           go_wp2_with (first
            |(at_builtin;go_must (refine Yd _ rfl (.tmp 76) (.tmp 78) rfl Tryz.underlying95 Xi rfl (by decide) BB u10 l.length (YF l) [.int .i64 2,.string ⟨#[]⟩,.slice none 0 0] hos rfl hone rfl rfl (by first|rfl|simp) ?_ ?_ hbsw ?_;(unfold maxLen;omega);omega;intro v8 w8 hown8 hg8 hn8;have hb8:=Yb hos hg8 hbsw;have HR8:=Qf (HRt.out.below hb8 hRs hPs);have HBl8:=Qf (HSt.out.bel.trans (hb8.mono hwBB));clear hown8 hg8 hb8 hn8 hos hbsw hone))
            |fail)
           have cm8:Ym w8 ⟨R,3,none⟩=x:=Yf ((Blk.cell HR8.out.1 3).trans rfl);have Hcm8:=Qf cm8;clear cm8;go_roundw
           case rel=>exact⟨p5,z5,x,v1,[],rfl,Nat.zero_le _,HR8,(fun h=>absurd h (by first|assumption|decide)),HBl8,.inr ⟨by first|assumption|decide,HE.out⟩⟩
           rw[Hcm8.out,Hcm3.out,Hcm.out,if_neg (by first|assumption|decide),if_pos rfl];omega
         have HRL:=Qf hRL;have HI1:=Qf hIa1;have HI2:=Qf hIa2;have hmL:=Yi4 (sg u p3 z) _ _ hxeL;have HmL:Hid ((sg u pL zL).n<=(sg u p3 z).n):=hmL;have Hl15:=Qf hl15;have HxeL:=Qf hxeL;have Had:=Qf had2;clear hRL hIa1 hIa2 hmL hl15 hxeL had1 had2;dsimp only at HI1 HI2 hnl hnd;go_wp2_with fail;refine(Yev (lenF (ll.take nl)) nl (fun i _=>Yb5 (fun y hy=>Hl15.out y (List.mem_of_mem_take hy)) i) (by omega) (lenF (ll.drop nl)) (ll.length-nl) (fun i _=>Yb5 (fun y hy=>Hl15.out y (List.mem_of_mem_drop hy)) i) (by omega) a1 a2 ca1 ca2 R P u pL zL most hus hpL hzL (by omega) wL HI1.out HI2.out (fun b off sp e=>by have:=Had.out b off sp e;omega) HRL.out).mono ?_;rintro r w5 ⟨hC5,S,ta,tc,rfl,hTk,haddr,hres⟩;have HB5:=Qf (hC5.blk HBL.out ntb.1 ntb.2);have HC5:=Qf (HCL.out.trans hC5);have Hres:=Qf hres;have HTk5:=Qf hTk;have Haddr:=Qf haddr;have hLlt:=HBL.out.lt;clear hC5 HBL HCL HRL hres hTk haddr;have q0:=HB5.out.cell 0;have q1:=HB5.out.cell 1;have q2:=HB5.out.cell 2;have gf:=HB5.out.frozen 2;simp at q0 q1 q2
         have HBt:Hid (Blk (w5.setCell ⟨wA.heap.size,2,none⟩ (.slice ta S.length tc)) wA.heap.size 144 #[.int .i64 2,.string ⟨#[]⟩,.slice ta S.length tc]):=by
          show Blk _ _ _ _;have:=HB5.out.set_ 2 (.slice ta S.length tc)
          simpa using this
         have hbs:Below wA.heap.size w5 (w5.setCell ⟨wA.heap.size,2,none⟩ (.slice ta S.length tc)):=(Below.refl wA.heap.size w5).setCell (p:=⟨wA.heap.size,2,none⟩) (Qa _) _;have HCt:=Qf (HC5.out.then_below hbs (Qa _));have Hrd:Hid (∀p z e,RdAt w5 R P u p z most e->RdAt (w5.setCell ⟨wA.heap.size,2,none⟩ (.slice ta S.length tc)) R P u p z most e):=fun p z e h=>h.below hbs (by omega) (by omega);have HTkt:Hid (TkRow (w5.setCell ⟨wA.heap.size,2,none⟩ (.slice ta S.length tc)) ta S):=HTk5.out.grown (Kc w5 ⟨wA.heap.size,2,none⟩ _) (fun _ b off sp e e2=>by injection e2 with e2;have e3:b=wA.heap.size:=e2;have:=Haddr.out b off sp e;omega);clear hbs HB5 HC5;rcases Hres.out with⟨x,p5,z5,hxe,hx,hR5⟩|⟨S',p',z',hxe,hp',hz',hR5,rfl⟩
         . have HE:Hid (RES=.error x):=BR.fail HL.out (by
            unfold Y4
            rw[if_neg (by decide),if_neg (by decide),if_pos rfl,HxeL.out,Yj];rw[hxe];rfl)
           have HRt:=Qf (Hrd.out _ _ _ hR5);have HSt:=Qf (HSA.out.rch HCt.out hRs hPs hwR hwP);have hos:=HSt.out.own;have hbsw:=HSt.out.sz;have hone:=VG 2 ⟨#[]⟩ ta S.length tc
           go_wp2_with (first
            |(at_builtin;go_must (refine Yd _ rfl (.tmp 76) (.tmp 78) rfl Tryz.underlying95 Xi rfl (by decide) BB u10 l.length (YF l) [.int .i64 2,.string ⟨#[]⟩,.slice ta S.length tc] hos rfl hone rfl rfl (by first|rfl|simp) ?_ ?_ hbsw ?_;(unfold maxLen;omega);omega;intro v8 w8 hown8 hg8 hn8;have hb8:=Yb hos hg8 hbsw;have HR8:=Qf (HRt.out.below hb8 hRs hPs);have HBl8:=Qf (HSt.out.bel.trans (hb8.mono hwBB));clear hown8 hg8 hb8 hn8 hos hbsw hone))
            |fail)
           have cm8:Ym w8 ⟨R,3,none⟩=x:=Yf ((Blk.cell HR8.out.1 3).trans rfl);have Hcm8:=Qf cm8;clear cm8;go_roundw
           case rel=>exact⟨p5,z5,x,v1,[],rfl,Nat.zero_le _,HR8,(fun h=>absurd h (by first|assumption|decide)),HBl8,.inr ⟨by first|assumption|decide,HE.out⟩⟩
           rw[Hcm8.out,Hcm3.out,Hcm.out,if_neg (by first|assumption|decide),if_pos rfl];omega
         skip
         have HRt:=Qf (Hrd.out _ _ _ hR5);have HSt:=Qf (HSA.out.rch HCt.out hRs hPs hwR hwP);have hos:=HSt.out.own;have hbsw:=HSt.out.sz;have hone:=VG 2 ⟨#[]⟩ ta S'.length tc;have HLT:Hid (LTk (w5.setCell ⟨wA.heap.size,2,none⟩ (.slice ta S'.length tc)) BB ⟨⟨2,[],S'⟩,ta,tc⟩):=⟨HTkt.out,fun b off sp e=>by have h1:wA.heap.size<=b:=Qe (Nat.le_of_lt hLlt) (Haddr.out b off sp e);omega⟩;have HXA:Hid (∀b off sp,(⟨⟨2,[],S'⟩,ta,tc⟩:LBk).a=some ⟨b,off,sp⟩->wA.heap.size<=b):=fun b off sp e=>Qe (Nat.le_of_lt hLlt) (Haddr.out b off sp e)
         have HBN:Hid (BR most u RES p' z' 0 v1 (l.map LBk.b++[(⟨⟨2,[],S'⟩,ta,tc⟩:LBk).b])):=BR.next (p:=p) HL.out hf (by
          unfold Y4
          rw[if_neg (by decide),if_neg (by decide),if_pos rfl,HxeL.out,Yj];rw[hxe];rfl) (by
          have:=Qe (XW _ _ _ _ most (sg u pL zL) _ _ hxe) HmL.out;have e1:(sg u p' z').n=8*u.size-p':=rfl;have e2:(sg u p3 z).n=8*u.size-p3:=rfl;rw[e1,e2] at this;have:=Hp3e.out
          omega) hp' hz'
         have hpp:p+3<=p':=by
          have:=Qe (XW _ _ _ _ most (sg u pL zL) _ _ hxe) HmL.out;have e1:(sg u p' z').n=8*u.size-p':=rfl;have e2:(sg u p3 z).n=8*u.size-p3:=rfl;rw[e1,e2] at this;have:=Hp3e.out;omega
         go_wp2_with (first
          |(at_builtin;go_must (refine Yd _ rfl (.tmp 76) (.tmp 78) rfl Tryz.underlying95 Xi rfl (by decide) BB u10 l.length (YF l) [.int .i64 2,.string ⟨#[]⟩,.slice ta S'.length tc] hos rfl hone rfl rfl (by first|rfl|simp) ?_ ?_ hbsw ?_;(unfold maxLen;omega);omega;intro v8 w8 hown8 hg8 hn8;have hb8:=Yb hos hg8 hbsw;have HR8:=Qf (HRt.out.below hb8 hRs hPs);have HS8:=Qf (BS.app (x:=⟨⟨2,[],S'⟩,ta,tc⟩) (wa:=wA) HSt.out hwBB hg8 hown8 hn8 HLT.out Hvt.out HXA.out);clear hown8 hg8 hb8 hn8 hos hbsw hone))
          |fail)
         have cm8:Ym w8 ⟨R,3,none⟩=0:=Yf (n:=0) ((Blk.cell HR8.out.1 3).trans rfl);have Hcm8:=Qf cm8;have cm9:Ym w8 ⟨P,1,none⟩=p':=Yf ((Blk.cell HR8.out.2.1 1).trans rfl);have Hcm9:=Qf cm9;clear cm8 cm9;go_roundw
         case rel=>exact⟨p',z',0,v1,l++[⟨⟨2,[],S'⟩,ta,tc⟩],rfl,(by rw[List.length_append];show l.length+1<=p';omega),HR8,(fun _=>HS8.out),HS8.out.bel,(by rw[List.map_append];exact HBN)⟩
         rw[Hcm8.out,Hcm9.out,Hcm3.out,Hcm.out,if_pos rfl,if_pos rfl];omega
       have HE:Hid (RES=.error 3):=BR.fail HL.out (by unfold Y4;rfl);go_wp2_with fail;rw[show wA.alloc (.cells #[.int .i64 3,.string ⟨#[]⟩,.slice none 0 0] 144)=w4 from HW4.out];refine(Vo R P u p3 z most 0 3 w4 HR4.out).mono ?_;rintro r wt ⟨rfl,hRt,hCt⟩;have HRt:Hid (RdAt wt R P u p3 z most 3):=hRt;have HBt:=Qf (hCt.blk HB4.out ntb.1 ntb.2);have HCt:=Qf (HC4.out.trans hCt);have f0:=HBt.out.cell 0;have f1:=HBt.out.cell 1;have f2:=HBt.out.cell 2;simp at f0 f1 f2;clear hRt hCt HR4 HB4 HC4;have HSt:=Qf (HSA.out.rch HCt.out hRs hPs hwR hwP);have hos:=HSt.out.own;have hbsw:=HSt.out.sz;have hone:=VG 3 ⟨#[]⟩ none 0 0
       go_wp2_with (first
        |(at_builtin;go_must (refine Yd _ rfl (.tmp 76) (.tmp 78) rfl Tryz.underlying95 Xi rfl (by decide) BB u10 l.length (YF l) [.int .i64 3,.string ⟨#[]⟩,.slice none 0 0] hos rfl hone rfl rfl (by first|rfl|simp) ?_ ?_ hbsw ?_;(unfold maxLen;omega);omega;intro v8 w8 hown8 hg8 hn8;have hb8:=Yb hos hg8 hbsw;have HR8:=Qf (HRt.out.below hb8 hRs hPs);have HBl8:=Qf (HSt.out.bel.trans (hb8.mono hwBB));clear hown8 hg8 hb8 hn8 hos hbsw hone))
        |fail)
       have cm8:Ym w8 ⟨R,3,none⟩=3:=Yf ((Blk.cell HR8.out.1 3).trans rfl);have Hcm8:=Qf cm8;clear cm8;go_roundw
       case rel=>exact⟨p3,z,3,v1,[],rfl,Nat.zero_le _,HR8,(fun h=>absurd h (by first|assumption|decide)),HBl8,.inr ⟨by first|assumption|decide,HE.out⟩⟩
       rw[Hcm8.out,Hcm3.out,Hcm.out,if_neg (by first|assumption|decide),if_pos rfl];omega
     have HE:Hid (RES=.error e2):=by
      rcases HL.out with⟨h,_⟩|⟨_,h⟩
      . exact absurd h he2
      exact h
     have hv2c:v2=0\/v2=1:=by have:=Hv2e.out he2;omega
     clear Hv2e hv2 HL;rcases hv2c with rfl|rfl
     . go_wp2_with fail
       rw[show wA.alloc (.cells #[.int .i64 0,.string ⟨#[]⟩,.slice none 0 0] 144)=w4 from HW4.out];refine(YfN R P u p3 z most e2 he2 hus (by omega) (by omega) (by omega) w4 HR4.out).mono ?_;rintro r w5 ⟨hC5,⟨tx,rfl⟩,p5,hR5⟩;have HB5:=Qf (hC5.blk HB4.out ntb.1 ntb.2);have HC5:=Qf (HC4.out.trans hC5);have HR5:=Qf hR5;clear hC5 hR5 HB4 HC4 HR4;have q0:=HB5.out.cell 0;have q1:=HB5.out.cell 1;have q2:=HB5.out.cell 2;have gf:=HB5.out.frozen 1;simp at q0 q1 q2
       have HBt:Hid (Blk (w5.setCell ⟨wA.heap.size,1,none⟩ (.string tx)) wA.heap.size 144 #[.int .i64 0,.string tx,.slice none 0 0]):=by
        show Blk _ _ _ _;have:=HB5.out.set_ 1 (.string tx)
        simpa using this
       have hbs:Below wA.heap.size w5 (w5.setCell ⟨wA.heap.size,1,none⟩ (.string tx)):=(Below.refl wA.heap.size w5).setCell (p:=⟨wA.heap.size,1,none⟩) (Qa _) _;have HCt:=Qf (HC5.out.then_below hbs (Qa _));have Hrd:Hid (∀p z e,RdAt w5 R P u p z most e->RdAt (w5.setCell ⟨wA.heap.size,1,none⟩ (.string tx)) R P u p z most e):=fun p z e h=>h.below hbs (by omega) (by omega);clear hbs HB5 HC5;have HRt:=Qf (Hrd.out _ _ _ HR5.out);have HSt:=Qf (HSA.out.rch HCt.out hRs hPs hwR hwP);have hos:=HSt.out.own;have hbsw:=HSt.out.sz;have hone:=VG 0 tx none 0 0
       go_wp2_with (first
        |(at_builtin;go_must (refine Yd _ rfl (.tmp 76) (.tmp 78) rfl Tryz.underlying95 Xi rfl (by decide) BB u10 l.length (YF l) [.int .i64 0,.string tx,.slice none 0 0] hos rfl hone rfl rfl (by first|rfl|simp) ?_ ?_ hbsw ?_;(unfold maxLen;omega);omega;intro v8 w8 hown8 hg8 hn8;have hb8:=Yb hos hg8 hbsw;have HR8:=Qf (HRt.out.below hb8 hRs hPs);have HBl8:=Qf (HSt.out.bel.trans (hb8.mono hwBB));clear hown8 hg8 hb8 hn8 hos hbsw hone))
        |fail)
       have cm8:Ym w8 ⟨R,3,none⟩=e2:=Yf ((Blk.cell HR8.out.1 3).trans rfl);have Hcm8:=Qf cm8;clear cm8;go_roundw
       case rel=>exact⟨p5,z,e2,v1,[],rfl,Nat.zero_le _,HR8,(fun h=>absurd h (by first|assumption|decide)),HBl8,.inr ⟨by first|assumption|decide,HE.out⟩⟩
       rw[Hcm8.out,Hcm3.out,Hcm.out,if_neg (by first|assumption|decide),if_pos rfl];omega
     go_wp2_with fail;rw[show wA.alloc (.cells #[.int .i64 1,.string ⟨#[]⟩,.slice none 0 0] 144)=w4 from HW4.out];refine(Xe w4).mono ?_;rintro r wL ⟨g1,cg1,g2,rfl,hI1,hI2,hg1,hg2,hbL⟩;have HRL:=Qf (HR4.out.keep hbL);have HBL:=Qf (HB4.out.below hbL HB4.out.lt);have HCL:=Qf (HC4.out.then_below hbL Hws.out);have HI1:=Qf hI1;have HI2:=Qf hI2;have hwsL:wA.heap.size<=wL.heap.size:=Qe Hws.out hbL.size
     have ng:g1 ≠ R/\g1 ≠ P/\g2 ≠ R/\g2 ≠ P:=by have:=Hws.out;omega
     clear hI1 hI2 hbL HR4 HB4 HC4;go_wp2_with fail;refine(YaV R P u p3 z most e2 he2 _ _ wL HRL.out).mono ?_;rintro r w5 ⟨rfl,hR5,hC5⟩;have HB5:=Qf (hC5.blk HBL.out ntb.1 ntb.2);have HC5:=Qf (HCL.out.trans hC5);have HR5:=Qf hR5;clear hC5 hR5 HBL HCL HRL;have q0:=HB5.out.cell 0;have q1:=HB5.out.cell 1;have q2:=HB5.out.cell 2;have gf:=HB5.out.frozen 2;simp at q0 q1 q2
     have HBt:Hid (Blk (w5.setCell ⟨wA.heap.size,2,none⟩ (.slice none 0 0)) wA.heap.size 144 #[.int .i64 1,.string ⟨#[]⟩,.slice none 0 0]):=by
      show Blk _ _ _ _;have:=HB5.out.set_ 2 (.slice none 0 0)
      simpa using this
     have hbs:Below wA.heap.size w5 (w5.setCell ⟨wA.heap.size,2,none⟩ (.slice none 0 0)):=(Below.refl wA.heap.size w5).setCell (p:=⟨wA.heap.size,2,none⟩) (Qa _) _;have HCt:=Qf (HC5.out.then_below hbs (Qa _));have Hrd:Hid (∀p z e,RdAt w5 R P u p z most e->RdAt (w5.setCell ⟨wA.heap.size,2,none⟩ (.slice none 0 0)) R P u p z most e):=fun p z e h=>h.below hbs (by omega) (by omega);clear hbs HB5 HC5;have HRt:=Qf (Hrd.out _ _ _ HR5.out);have HSt:=Qf (HSA.out.rch HCt.out hRs hPs hwR hwP);have hos:=HSt.out.own;have hbsw:=HSt.out.sz;have hone:=VG 1 ⟨#[]⟩ none 0 0
     go_wp2_with (first
      |(at_builtin;go_must (refine Yd _ rfl (.tmp 76) (.tmp 78) rfl Tryz.underlying95 Xi rfl (by decide) BB u10 l.length (YF l) [.int .i64 1,.string ⟨#[]⟩,.slice none 0 0] hos rfl hone rfl rfl (by first|rfl|simp) ?_ ?_ hbsw ?_;(unfold maxLen;omega);omega;intro v8 w8 hown8 hg8 hn8;have hb8:=Yb hos hg8 hbsw;have HR8:=Qf (HRt.out.below hb8 hRs hPs);have HBl8:=Qf (HSt.out.bel.trans (hb8.mono hwBB));clear hown8 hg8 hb8 hn8 hos hbsw hone))
      |fail)
     have cm8:Ym w8 ⟨R,3,none⟩=e2:=Yf ((Blk.cell HR8.out.1 3).trans rfl);have Hcm8:=Qf cm8;clear cm8;go_roundw
     case rel=>exact⟨p3,z,e2,v1,[],rfl,Nat.zero_le _,HR8,(fun h=>absurd h (by first|assumption|decide)),HBl8,.inr ⟨by first|assumption|decide,HE.out⟩⟩
     rw[Hcm8.out,Hcm3.out,Hcm.out,if_neg (by first|assumption|decide),if_pos rfl];omega
   have dt:((t:Int)==0)=false:=by simp;omega
   rcases HBR.out with⟨_,hp8,hzm,⟨h,_⟩|⟨_,hRES⟩⟩|⟨h,_⟩
   . exact absurd h ht
   . have HE:=Qf hRES
     have CP:=Qf (Ycy P u p wr HR.out.2.1);have e7:((p:Int)+7).tdiv 8=(((p+7)/8:Nat):Int):=(by rw[Int.tdiv_eq_ediv_of_nonneg (by omega)];omega);obtain⟨pl,Hpl⟩:=Qi ((p+7)/8);rw[Hpl.out] at e7
     have e7b:((p:Int)+7)/8=(pl:Int):=by have:=Hpl.out;omega
     have w7:IntKind.i64.wrap ((p:Int)+7)=(p:Int)+7:=IntWalk.i64_in _ (by omega);have w8:IntKind.i64.wrap (pl:Int)=(pl:Int):=IntWalk.i64_in _ (by have:=Hpl.out;omega);clear hRES HBR;go_wp2_with fail;refine CP.out.mono ?_;rintro r wz ⟨rfl,rfl⟩;go_wp2_with fail
     go_ret3
     exact⟨HS.out.bel,.inr ⟨l,p,z,u10,BB,HE.out,hp8,hzm,by rw[Hpl.out];rfl,hwBB,HS.out⟩⟩
   exact absurd rfl h
 have HE:Hid (RES=.error e):=by
  rcases HBR.out with⟨h,_⟩|⟨_,h⟩
  . exact absurd h he
  exact h
 have de:((e:Int)==0)=false:=by simp;omega
 have de2:((e:Int)!=0)=true:=by simp;omega
 by_cases ht:t=0
 . have dt:((t:Int)==0)=true:=by simp;omega
   go_wp2_with fail
   go_quiet (fail)
   all_goals
    go_wp2_with fail
    go_ret3
    exact⟨Yh HBl.out _,.inl ⟨e,he,HE.out,rfl⟩⟩
 have dt:((t:Int)==0)=false:=by simp;omega
 go_wp2_with fail
 go_quiet (fail)
 all_goals
  go_wp2_with fail
  go_ret3
  exact⟨Yh HBl.out _,.inl ⟨e,he,HE.out,rfl⟩⟩
end Go.Proofs.YthehocmfpoglgaaGreat
