/- inflate's reader: tokens. Printed by gen_rtok.py. Conditions: texts of at most a hundred thousand bytes. -/
import Derived.Test.YthehocmfpoglgaaGreatJfbdmaf
namespace Go.Proofs.YthehocmfpoglgaaGreat
open Go.RowKit
set_option maxRecDepth 100000
def TokRel (L:Nat->Nat) (c:Nat) (D:Nat->Nat) (d most:Nat) (s:ByteArray) (RES:Rs (List Tok)) (p z e:Nat) (S:List Tok):Prop:=
 (e=0/\p<=8*s.size/\z<=most/\∃fu,8*s.size-p<fu/\tokM L c D d most fu (sg s p z) S=RES)\/(e ≠ 0/\RES=.error e)
theorem TokRel.step {L:Nat->Nat} {c:Nat} {D:Nat->Nat} {d most:Nat} {s:ByteArray} {RES:Rs (List Tok)} {p z:Nat} {S:List Tok} (h:TokRel L c D d most s RES p z 0 S) :
 p<=8*s.size/\z<=most/\(∀x,Y1 L c D d most (sg s p z)=.error x->RES=.error x)/\(∀σ,Y1 L c D d most (sg s p z)=.ok (none,σ)->RES=.ok (S,σ))/\
  (∀t p' z',Y1 L c D d most (sg s p z)=.ok (some t,sg s p' z')->p<p'->p'<=8*s.size->z'<=most->TokRel L c D d most s RES p' z' 0 (S++[t])):=by
 rcases h with⟨_,h1,h2,fu,h3,h4⟩|⟨h,_⟩
 . obtain⟨f,rfl⟩:∃f,fu=f+1:=⟨fu-1,by omega⟩
   refine⟨h1,h2,fun x hx=>?_,fun σ hx=>?_,fun t p' z' hx h5 h6 h7=>?_⟩
   . rw[<-h4];show Yc _ _=_;rw[hx];rfl
   . rw[<-h4];show Yc _ _=_;rw[hx];rfl
   refine .inl ⟨rfl,h6,h7,f,by omega,?_⟩;rw[<-h4];show _=Yc _ _;rw[hx];rfl
 exact absurd rfl h
theorem KS (most z e:Nat) (he:e ≠ 0):growE most z e=e:=by unfold growE Yu;split<;>first|rfl|rw[if_neg he]
theorem Ud (x e:Nat) (he:e ≠ 0):Yu e x=e:=by unfold Yu;rw[if_neg he]
def TokPost (w:World) (R P:Nat) (s:ByteArray) (most:Nat) (res:Rs (List Tok)) (r:Ending) (w':World):Prop:=
 Rch R P w w'/\∃(S:List Tok) (a:Option Addr) (cap:Nat),r=.returned (.slice a S.length cap)/\TkRow w' a S/\(∀b off sp,a=some ⟨b,off,sp⟩->w.heap.size<=b)/\Yk9 w' R P s most res (fun S'=>S'=S)
theorem TokPost.of {w w':World} {R P most B:Nat} {s:ByteArray} {res:Rs (List Tok)} {v:Value} {S:List Tok} (hC:Rch R P w w') (hO:OwnK 119 w' B v S) (hB:w.heap.size<=B) (h:Yk9 w' R P s most res (fun S'=>S'=S)):TokPost w R P s most res (.returned v) w':=by
 have hlt:=World.ownsRow.lt hO;obtain⟨a,cap,rfl,hr⟩:=hO.view;refine⟨hC,S,a,cap,rfl,hr,fun b off sp e=>?_,h⟩;subst e;have:=(hlt b rfl).1;omega
theorem TokPost.bad {w w':World} {R P most B p z x:Nat} {s:ByteArray} {res:Rs (List Tok)} {v:Value} {S:List Tok} (hC:Rch R P w w') (hO:OwnK 119 w' B v S) (hB:w.heap.size<=B) (hx:x ≠ 0) (hres:res=.error x) (hR:RdAt w' R P s p z most x):TokPost w R P s most res (.returned v) w':=
 TokPost.of hC hO hB (.inl ⟨x,p,z,hres,hx,hR⟩)
theorem TokPost.good {w w':World} {R P most B p z:Nat} {s:ByteArray} {res:Rs (List Tok)} {v:Value} {S:List Tok} (hC:Rch R P w w') (hO:OwnK 119 w' B v S) (hB:w.heap.size<=B) (hres:res=.ok (S,sg s p z)) (hp:p<=8*s.size) (hz:z<=most) (hR:RdAt w' R P s p z most 0):TokPost w R P s most res (.returned v) w':=
 TokPost.of hC hO hB (.inr ⟨S,p,z,hres,hp,hz,hR,rfl⟩)
structure TS (w:World) (R P BB:Nat) (T1 g1 N1 cap1:Nat) (B1:Nat->Nat->Int) (T2 g2 N2 cap2:Nat) (B2:Nat->Nat->Int) (v:Value) (S:List Tok) (wt:World):Prop where
 own:OwnK 119 wt BB v S
 a1:TreeAt wt T1 g1 N1 cap1 B1
 a2:TreeAt wt T2 g2 N2 cap2 B2
 ch:Rch R P w wt
 sz:BB<=wt.heap.size
structure TB (w:World) (R P BB T1 g1 T2 g2:Nat):Prop where
 rb:R<BB
 pb:P<BB
 wb:w.heap.size<=BB
 b1:T1<BB/\g1<BB
 b2:T2<BB/\g2<BB
 n1:T1 ≠ R/\T1 ≠ P/\g1 ≠ R/\g1 ≠ P
 n2:T2 ≠ R/\T2 ≠ P/\g2 ≠ R/\g2 ≠ P
section
variable {w wt w':World} {R P BB T1 g1 N1 cap1 T2 g2 N2 cap2:Nat} {B1 B2:Nat->Nat->Int} {v v':Value} {S S':List Tok}
theorem TS.rch (h:TS w R P BB T1 g1 N1 cap1 B1 T2 g2 N2 cap2 B2 v S wt) (k:TB w R P BB T1 g1 T2 g2) (hc:Rch R P wt w'):TS w R P BB T1 g1 N1 cap1 B1 T2 g2 N2 cap2 B2 v S w':=
 ⟨h.own.rch hc k.rb k.pb,h.a1.rch hc k.n1.1 k.n1.2.1 k.n1.2.2.1 k.n1.2.2.2,h.a2.rch hc k.n2.1 k.n2.2.1 k.n2.2.2.1 k.n2.2.2.2,h.ch.trans hc,Qe h.sz hc.2.2.2.1⟩
theorem TS.below (h:TS w R P BB T1 g1 N1 cap1 B1 T2 g2 N2 cap2 B2 v S wt) (k:TB w R P BB T1 g1 T2 g2) (hb:Below wt.heap.size wt w'):TS w R P BB T1 g1 N1 cap1 B1 T2 g2 N2 cap2 B2 v S w':=
 ⟨h.own.below hb (Qa _),h.a1.below hb (Qb k.b1.1 h.sz) (Qb k.b1.2 h.sz),h.a2.below hb (Qb k.b2.1 h.sz) (Qb k.b2.2 h.sz),h.ch.then_below hb (Qe k.wb h.sz),Qe h.sz hb.size⟩
theorem TS.app (h:TS w R P BB T1 g1 N1 cap1 B1 T2 g2 N2 cap2 B2 v S wt) (k:TB w R P BB T1 g1 T2 g2) (hb:Below BB wt w') (hO:OwnK 119 w' BB v' S'):TS w R P BB T1 g1 N1 cap1 B1 T2 g2 N2 cap2 B2 v' S' w':=
 ⟨hO,h.a1.below hb k.b1.1 k.b1.2,h.a2.below hb k.b2.1 k.b2.2,h.ch.then_below hb k.wb,Qe h.sz hb.size⟩
theorem Kc (w:World) (p:Addr) (v:Value):w.grownBy (w.setCell p v) (some p.block):=
 ⟨rfl,rfl,rfl,by simp,fun k _ hne=>heap_setCell_other w p k v (fun e=>hne (by rw[e]))⟩
theorem TS.set_ (h:TS w R P BB T1 g1 N1 cap1 B1 T2 g2 N2 cap2 B2 v S wt) (k:TB w R P BB T1 g1 T2 g2) {tb:Nat} (htb:BB<=tb) (hv:∀g,v.ownBlock=some g->g<tb) (i:Nat) (u:Value):TS w R P BB T1 g1 N1 cap1 B1 T2 g2 N2 cap2 B2 v S (wt.setCell ⟨tb,i,none⟩ u):=by
 have hb:Below BB wt (wt.setCell ⟨tb,i,none⟩ u):=(Below.refl BB wt).setCell htb _;refine h.app k hb (World.ownsRow.kept h.own (Kc wt ⟨tb,i,none⟩ u) ?_)
 cases hg:v.ownBlock with
 |none=>exact .inl rfl
 |some g=>exact .inr (fun e=>by injection e with e;have e2:g=tb:=e;have:=hv g hg;omega)
end
theorem U4 {v':Value} {S:List Tok} {w:World} {BB:Nat} {ln dv:Int} (h:w.ownsRow BB 119 3 v' (S.length+1) (YU S++[.int .u8 0,.int .i64 ln,.int .i64 dv])):OwnK 119 w BB v' (S++[⟨0,ln,dv⟩]):=OwnK.snoc (t:=⟨0,ln,dv⟩) h
theorem KY (ln dv:Int):∀u ∈ ([.int .u8 0,.int .i64 ln,.int .i64 dv]:List Value),u.oneCell'=true:=J1 ⟨0,ln,dv⟩
set_option maxHeartbeats 64000000 in
theorem Yev (m:Nat->Int) (c:Nat) (hm:∀i,i<c->0<=m i/\m i<=15) (hc:c<=288) (md:Nat->Int) (d:Nat) (hmd:∀i,i<d->0<=md i/\md i<=15) (hd:d<=32) (a a2:Option Addr) (cap cap2:Nat)
 (R P:Nat) (s:ByteArray) (p z most:Nat) (hs:s.size<=100000) (hp:p<=8*s.size) (hz:z<=most) (hmo:most<=1000000) (w:World) (hr:IRow w a c m) (hr2:IRow w a2 d md) (hna:∀b off sp,a2=some ⟨b,off,sp⟩->b ≠ R/\b ≠ P) (hR:RdAt w R P s p z most 0) :
 Calls Tryz.prog 74 #[.pointer (some ⟨R,0,none⟩),.slice a c cap,.slice a2 d cap2] w (TokPost w R P s most (Vc m c md d most (sg s p z))):=by
 have hRlt:=hR.1.lt;have hPlt:=hR.2.1.lt;have C1:=Qf (Yag a c cap m (by omega) hm R P s p z most w hr hR);have Hr2:=Qf hr2;have Hna:=Qf hna;have Hmd:=Qf hmd
 have hL:∀i,i<c->lens m i<=15:=fun i hi=>by have:=hm i hi;unfold lens;omega
 have hD:∀i,i<d->lens md i<=15:=fun i hi=>by have:=hmd i hi;unfold lens;omega
 obtain⟨RES,HRES⟩:=Qi (Vc m c md d most (sg s p z));have HRES0:Hid (Yc (fitM m c (sg s p z)) (fun _ σ1=>Yc (fitM md d σ1) fun _ σ2=>tokM (lens m) c (lens md) d most (σ2.n+1) σ2 [])=RES):=HRES.out;rw[HRES.out];have HL:=Qf hL;have HD:=Qf hD;clear hr hr2 hna hm hmd hR HRES hL hD;go_enter Tryz.func74,Tryz.ntmps74;go_wp2_with fail;refine C1.out.mono ?_;rintro r w1 ⟨hC1,⟨hf,rfl,hR1⟩|⟨hf,T1,g1,N1,cap1,B1,pv1,pn1,rfl,hT1,hg1,hA1,hG1,hR1⟩⟩
 . have HR1:=Qf hR1
   have HC1:=Qf hC1
   have HE:Hid (RES=.error 3):=by show _=_;rw[<-HRES0.out];unfold fitM VN;rw[if_neg hf];rfl
   clear hR1 hC1 hf C1 Hr2 HRES0;go_wp2_with fail;refine(UM R P s p z most 3 (by decide) _ w1 HR1.out).mono ?_;rintro r w2 ⟨rfl,hR2,hC2⟩;have HR2:=Qf hR2;have HC2:=Qf (HC1.out.trans hC2);clear hR2 hC2 HR1 HC1;go_wp2_with fail
   go_loopw [9] (fun v_ wr=>v_=.slice none 0 0/\wr=w2) (fun _ _=>0)
   case atStart=>exact⟨rfl,rfl⟩
   obtain⟨rfl,hw2⟩:=hrel;have hw3:=hw2.symm;subst hw3;have c3:=HR2.out.1.cell 3;simp at c3;go_wp2_with fail;go_ret;exact TokPost.bad (B:=w.heap.size) (v:=.slice none 0 0) (S:=[]) HC2.out (World.ownsRow_nil _ _ _ _) (Qa _) (by decide) HE.out HR2.out
 have HR1:=Qf hR1;have HC1:=Qf hC1;have HA1:=Qf hA1;have HG1:=Qf hG1
 have HF1:Hid (fitM m c (sg s p z)=.ok ((),sg s p z)):=by show _=_;unfold fitM VN;rw[if_pos hf]
 have C2:=Qf (Yag a2 d cap2 md (by omega) Hmd.out R P s p z most w1 (Hr2.out.rch hC1 Hna.out) hR1);clear hR1 hC1 hf C1 Hr2 hA1 hG1;go_wp2_with fail;refine C2.out.mono ?_;rintro r w2 ⟨hC2,⟨hf2,rfl,hR2⟩|⟨hf2,T2,g2,N2,cap2',B2,pv2,pn2,rfl,hT2,hg2,hA2,hG2,hR2⟩⟩
 . have HR2:=Qf hR2
   have HC2:=Qf (HC1.out.trans hC2)
   have HE:Hid (RES=.error 3):=by show _=_;rw[<-HRES0.out,HF1.out,Yj];unfold fitM VN;rw[if_neg hf2];rfl
   clear hR2 hC2 hf2 C2 HRES0 HR1 HC1;go_wp2_with fail
   go_loopw [9] (fun v_ wr=>v_=.slice none 0 0/\wr=w2) (fun _ _=>0)
   case atStart=>exact⟨rfl,rfl⟩
   obtain⟨rfl,hw2⟩:=hrel;have hw3:=hw2.symm;subst hw3;have c3:=HR2.out.1.cell 3;simp at c3;go_wp2_with fail;go_ret;exact TokPost.bad (B:=w.heap.size) (v:=.slice none 0 0) (S:=[]) HC2.out (World.ownsRow_nil _ _ _ _) (Qa _) (by decide) HE.out HR2.out
 have hRB:R<w2.heap.size:=hR2.1.lt;have hPB:P<w2.heap.size:=hR2.2.1.lt;have hwB:w.heap.size<=w2.heap.size:=(HC1.out.trans hC2).2.2.2.1;have hw1B:w.heap.size<=w1.heap.size:=HC1.out.2.2.2.1;have hT1B:T1<w2.heap.size:=Qb HA1.out.1.lt hC2.2.2.2.1;have hg1B:g1<w2.heap.size:=Qb HA1.out.2.1 hC2.2.2.2.1;have hT2B:T2<w2.heap.size:=hA2.1.lt;have hg2B:g2<w2.heap.size:=hA2.2.1;have nT1:T1 ≠ R/\T1 ≠ P/\g1 ≠ R/\g1 ≠ P:=by omega
 have nT2:T2 ≠ R/\T2 ≠ P/\g2 ≠ R/\g2 ≠ P:=by omega
 have HA1b:Hid (TreeAt w2 T1 g1 N1 cap1 B1):=HA1.out.rch hC2 nT1.1 nT1.2.1 nT1.2.2.1 nT1.2.2.2;have HA2:=Qf hA2;have CS1:=Qf (fun p z W hp hA hR=>YbG (lens m) c HL.out (by omega) T1 g1 N1 cap1 B1 pv1 pn1 HG1.out R P s p z most hs hp nT1.2.1 nT1.2.2.2 W hA hR);have CS2:=Qf (fun p z W hp hA hR=>YbG (lens md) d HD.out (by omega) T2 g2 N2 cap2' B2 pv2 pn2 hG2 R P s p z most hs hp nT2.2.1 nT2.2.2.2 W hA hR);have HR2:=Qf hR2;have HC2:=Qf (HC1.out.trans hC2)
 have HT0:Hid (TokRel (lens m) c (lens md) d most s RES p z 0 []):=by
  refine .inl ⟨rfl,hp,hz,(sg s p z).n+1,?_,?_⟩
  . show 8*s.size-p<8*s.size-p+1
    omega
  rw[<-HRES0.out,HF1.out,Yj];unfold fitM VN;rw[if_pos hf2];rfl
 obtain⟨BB,HBB⟩:=Qi (w2.heap.size);rw[HBB.out] at hRB hPB hwB hT1B hg1B hT2B hg2B;have HO0:Hid (OwnK 119 w2 BB (.slice none 0 0) []):=World.ownsRow_nil _ _ _ _;obtain⟨L,HLL⟩:=Qi (lens m);obtain⟨D,HDD⟩:=Qi (lens md);rw[HLL.out] at CS1 HT0;rw[HDD.out] at CS2 HT0
 have HBs:Hid (BB<=w2.heap.size):=by show _<=_;rw[HBB.out];exact Qa _
 clear hR2 hC2 hf2 C2 HRES0 HR1 HC1 HA1 HG1 HF1 HL HD hA2 hG2 HLL HDD hT1 hg1 hT2 hg2 hw1B hp hz Hmd Hna HBB;go_wp2_with fail
 go_loopw [9] (fun v_ wr=>∃(S:List Tok) (p z e:Nat),Hid (OwnK 119 wr BB v_ S)/\S.length<=p/\p<=900000/\z<=2000000/\Hid (RdAt wr R P s p z most e)/\Hid (Rch R P w wr)/\Hid (TreeAt wr T1 g1 N1 cap1 B1)/\Hid (TreeAt wr T2 g2 N2 cap2' B2)/\Hid (TokRel L c D d most s RES p z e S)/\Hid (BB<=wr.heap.size)) (fun _ wr=>8*s.size+1-Ym wr ⟨P,1,none⟩)
 case atStart=>exact⟨[],p,z,0,HO0,Nat.zero_le _,by have:=HT0.out.step.1;omega,by have:=HT0.out.step.2.1;omega,HR2,HC2,HA1b,HA2,HT0,HBs⟩
 clear HO0 HR2 HC2 HA1b HA2 HT0 HBs;obtain⟨S,p,z,e,HO,hSp,hp9,hz9,HR,HC,HA1,HA2,HT,HBs⟩:=hrel;have cm:=Yf (n:=p) (by simpa using Blk.cell HR.out.2.1 1);have Hcm:=Qf cm;have c3:=HR.out.1.cell 3;simp at c3;clear cm;by_cases he:e=0
 . subst he
   obtain⟨hp,hz,k1,k2,k3⟩:=HT.out.step;have K1:=Qf k1;have K2:=Qf k2;have K3:=Qf k3;clear k1 k2 k3 HT;go_wp2_with fail;refine(CS1.out p z _ hp HA1.out HR.out).mono ?_;rintro r w1 ⟨v,p1,rfl,hC1,hp1,hp1b,⟨x,hx,hsy,hR1,_⟩|⟨hsy,hp1c,hvn,hR1⟩⟩
   . have HO1:=Qf (HO.out.rch hC1 hRB hPB)
     have HC1:=Qf (HC.out.trans hC1);have HR1:=Qf hR1;have HE:Hid (RES=.error x):=K1.out x (by unfold Y1;rw[hsy];rfl);have c3:=HR1.out.1.cell 3;simp at c3;have dx:((x:Int)!=0)=true:=(by simp;omega);clear hC1 hR1 hsy;go_wp2_with fail;go_ret;exact TokPost.bad HC1.out HO1.out hwB hx HE.out HR1.out
   have HO1:=Qf (HO.out.rch hC1 hRB hPB);have HA1:=Qf (HA1.out.rch hC1 nT1.1 nT1.2.1 nT1.2.2.1 nT1.2.2.2);have HA2:=Qf (HA2.out.rch hC1 nT2.1 nT2.2.1 nT2.2.2.1 nT2.2.2.2);have HBs1:Hid (BB<=w1.heap.size):=Qe HBs.out hC1.2.2.2.1;have HC1:=Qf (HC.out.trans hC1);have HR1:=Qf hR1;have Hsy:=Qf hsy;have c3:=HR1.out.1.cell 3;simp at c3;clear hC1 hR1 hsy HO HC HR HBs;by_cases h256:v=256
   . subst h256
     have HE:Hid (RES=.ok (S,sg s p1 z)):=K2.out _ (by unfold Y1;rw[Hsy.out,Yj,if_pos rfl]);go_wp2_with fail;go_ret;exact TokPost.good HC1.out HO1.out hwB HE.out hp1c hz HR1.out
   have d256:((v:Int)==256)=false:=by simp;omega
   by_cases hlt:v<256
   . have dlt:decide ((v:Int)<256)=true:=Qg (by omega)
     have dlt2:decide (v<256)=true:=Qg (by omega);have hv8:(v:Int)%256=(v:Int):=(by omega);have hos:=HO1.out;have hbsw:=HBs1.out
     have hone:∀u ∈ ([.int .u8 (v:Int),.int .i64 0,.int .i64 0]:List Value),u.oneCell'=true:=by
      intro u hu;simp only[List.mem_cons,List.not_mem_nil,or_false] at hu;rcases hu with rfl|rfl|rfl<;>rfl
     have htn:((UInt8.ofNat v).toNat:Int)=(v:Int):=(by rw[UInt8.toNat_ofNat'];omega);have hGr:=Qf (fun W hR=>Xz R P s p1 z most 0 1 (by omega) hmo (by decide) W hR)
     go_wp2_with (first
      |(at_builtin;go_must (refine Ya _ rfl (.tmp 40) (.tmp 44) rfl Tryz.underlying82 V7 rfl (by decide) BB u9 S.length (YU S) [.int .u8 (v:Int),.int .i64 0,.int .i64 0] hos rfl hone rfl rfl rfl ?_ ?_ hbsw ?_;(unfold maxLen;omega);omega;intro v8 w8 hown8 hg8;have HO8:=Qf (OwnK.snoc (t:=⟨UInt8.ofNat v,0,0⟩) (by rw[htn];exact hown8));have hb8:=Yb hos hg8 hbsw;have HR8:=Qf (HR1.out.below hb8 hRB hPB);have HC8:=Qf (HC1.out.then_below hb8 hwB);have HA18:=Qf (HA1.out.below hb8 hT1B hg1B);have HA28:=Qf (HA2.out.below hb8 hT2B hg2B);have HBs8:Hid (BB<=w8.heap.size):=Qf (Qe hbsw hg8.size);clear hown8 hg8 hb8 HR1 HC1 HA1 HA2 HBs1 HO1 hos hbsw c3))
      |(go_at_call 98;refine(hGr.out _ HR8.out).mono ?_;rintro r w9 ⟨rfl,hR9,hC9⟩))
     have HO9:=Qf (HO8.out.rch hC9 hRB hPB);have HA19:=Qf (HA18.out.rch hC9 nT1.1 nT1.2.1 nT1.2.2.1 nT1.2.2.2);have HA29:=Qf (HA28.out.rch hC9 nT2.1 nT2.2.1 nT2.2.2.1 nT2.2.2.2);have HBs9:Hid (BB<=w9.heap.size):=Qe HBs8.out hC9.2.2.2.1;have HC9:=Qf (HC8.out.trans hC9);have HR9:=Qf hR9;have cm9:Ym w9 ⟨P,1,none⟩=p1:=Yf ((Blk.cell HR9.out.2.1 1).trans rfl);have Hcm9:=Qf cm9
     have hTR:TokRel L c D d most s RES p1 (z+1) (growE most (z+1) 0) (S++[⟨UInt8.ofNat v,0,0⟩]):=by
      have hst:Y1 L c D d most (sg s p z)=Yc (VY most 1 (sg s p1 z)) fun _ σ2=>.ok (some ⟨UInt8.ofNat v,0,0⟩,σ2):=by
       unfold Y1;rw[Hsy.out,Yj,if_neg h256,if_pos hlt]
      by_cases hgr:most<z+1
      . have e1:growE most (z+1) 0=2:=by unfold growE;rw[if_pos hgr];rfl
        rw[e1];refine .inr ⟨by decide,K1.out 2 ?_⟩;rw[hst];unfold VY;have e2:(sg s p1 z).out=z:=rfl;rw[e2,if_pos hgr];rfl
      have e1:growE most (z+1) 0=0:=(by unfold growE;rw[if_neg hgr]);rw[e1];refine K3.out _ p1 (z+1) ?_ hp1 hp1c (by omega);rw[hst];unfold VY;have e2:(sg s p1 z).out=z:=rfl;rw[e2,if_neg hgr];rfl
     have HTR:=Qf hTR;clear hC9 hR9 cm9 hTR;go_wp2_with fail;go_roundw
     case rel=>exact⟨S++[⟨UInt8.ofNat v,0,0⟩],p1,z+1,growE most (z+1) 0,HO9,by rw[List.length_append];show S.length+1<=p1;omega,by omega,by omega,HR9,HC9,HA19,HA29,HTR,HBs9⟩
     rw[Hcm9.out,Hcm.out];omega
   have dlt:decide ((v:Int)<256)=false:=Qh (by omega);have dlt2:decide (v<256)=false:=Qh (by omega);obtain⟨i,Hi⟩:∃i:Nat,Hid (v-257=i):=⟨_,Qf (Eq.refl _)⟩
   have hiv:v=i+257:=by have:=Hi.out;omega
   have Hiv:=Qf hiv;have hwi:IntKind.i64.wrap ((v:Int)-257)=(i:Int):=by rw[show(v:Int)-257=(i:Int) by omega];exact IntWalk.i64_in _ (by omega)
   have hei:(v:Int)-257=(i:Int):=by omega
   have CN:=Qf (fun W=>YcA (i:Int) W);obtain⟨⟨b1,m1⟩,Hb1⟩:∃q,Hid (Yl false (i:Int)=q):=⟨_,Qf (Eq.refl _)⟩;rw[Hb1.out] at CN
   have hst:Y1 L c D d most (sg s p z)=if 285<v then .error 3 else Yc (Yy m1 (sg s p1 z)) fun b σ2=>Yc (symM D d σ2) fun q σ3=>if 29<q then .error 3 else Yc (Yy (Yl true (q:Int)).2 σ3) fun g σ4=>if σ4.out<(Yl true (q:Int)).1+g then .error 3 else Yc (VY most (b1+b) σ4) fun _ σ5=>.ok (some ⟨0,((b1+b:Nat):Int),(((Yl true (q:Int)).1+g:Nat):Int)⟩,σ5):=by
    unfold Y1;rw[Hsy.out,Yj,if_neg h256,if_neg hlt,hei,Hb1.out]
   have Hst:=Qf hst;have hic:i<=30:=by omega
   clear hst hei hiv;by_cases h285:285<v
   . have eb:b1=0:=by have:=YdH (i:Int) (by have:=Hiv.out;omega);rw[Hb1.out] at this;exact(Prod.mk.inj this).1
     subst eb;have HE:Hid (RES=.error 3):=K1.out 3 (by rw[Hst.out,if_pos h285]);go_wp2_with fail;refine(CN.out _).mono ?_;rintro r w2 ⟨rfl,nq,rfl⟩;have HR2:=Qf (HR1.out.drewN nq);have HC2:Hid (Rch R P w (w1.drewN nq)):=HC1.out.trans (Rch.drewN nq);have HO2:Hid (OwnK 119 (w1.drewN nq) BB u9 S):=HO1.out.rch (R:=R) (P:=P) (Rch.drewN nq) hRB hPB;go_wp2_with fail;refine(Vo R P s p1 z most 0 3 _ HR2.out).mono ?_;rintro r w3 ⟨rfl,hR3,hC3⟩;have HR3:Hid (RdAt w3 R P s p1 z most 3):=hR3;have HO3:=Qf (HO2.out.rch hC3 hRB hPB);have HC3:=Qf (HC2.out.trans hC3);clear hR3 hC3;go_wp2_with fail;go_ret;exact TokPost.bad HC3.out HO3.out hwB (by decide) HE.out HR3.out
   have hbn:=YdG i (by have:=Hiv.out;omega);rw[Hb1.out] at hbn;obtain⟨hb3,hb258,hm5⟩:=hbn;have hst:=Hst.out;rw[if_neg h285] at hst;have Hst:=Qf hst
   have db1:((b1:Int)==0)=false:=by
    have:b1 ≠ 0:=(by omega);simp[this]
   clear hst CS1;go_wp2_with fail;refine(CN.out _).mono ?_;rintro r w2 ⟨rfl,nq,rfl⟩;have HR2:=Qf (HR1.out.drewN nq);have HC2:Hid (Rch R P w (w1.drewN nq)):=HC1.out.trans (Rch.drewN nq);have HO2:Hid (OwnK 119 (w1.drewN nq) BB u9 S):=HO1.out.rch (R:=R) (P:=P) (Rch.drewN nq) hRB hPB;have HA12:Hid (TreeAt (w1.drewN nq) T1 g1 N1 cap1 B1):=HA1.out;have HA22:Hid (TreeAt (w1.drewN nq) T2 g2 N2 cap2' B2):=HA2.out;have HBs2:Hid (BB<=(w1.drewN nq).heap.size):=HBs1.out;obtain⟨w2,HW2⟩:=Qi (w1.drewN nq);rw[HW2.out] at HR2 HC2 HO2 HA12 HA22 HBs2 ⊢;clear HW2 HR1 HC1 HO1 HA1 HA2 HBs1 CN c3;have CB:=Qf (Ylu R P s p1 z most m1 (by omega) hs hp1c w2 HR2.out);go_wp2_with fail;refine CB.out.mono ?_;rintro r w3 ⟨v1,hv1k,hv1l,rfl,hC3,hcase⟩;have hv32:v1<32:=Qb hv1k (Qe (Nat.pow_le_pow_right (by decide) hm5) (by decide));obtain⟨ln,Hln⟩:=Qi (b1+v1)
   have hln:(b1:Int)+(v1:Int)=(ln:Int):=by have:=Hln.out;omega
   have hlnb:3<=ln/\ln<=300:=by have:=Hln.out;omega
   have hwl:IntKind.i64.wrap ((b1:Int)+(v1:Int))=(ln:Int):=by rw[hln];exact IntWalk.i64_in _ (by omega)
   have HO3:=Qf (HO2.out.rch hC3 hRB hPB);have HA13:=Qf (HA12.out.rch hC3 nT1.1 nT1.2.1 nT1.2.2.1 nT1.2.2.2);have HA23:=Qf (HA22.out.rch hC3 nT2.1 nT2.2.1 nT2.2.2.1 nT2.2.2.2);have HBs3:Hid (BB<=w3.heap.size):=Qe HBs2.out hC3.2.2.2.1;have HC3:=Qf (HC2.out.trans hC3);clear CB HR2 HC2 HO2 HA12 HA22 HBs2 hC3 hv1k;go_wp2_with fail;have KB:Hid (TB w R P BB T1 g1 T2 g2):=⟨hRB,hPB,hwB,⟨hT1B,hg1B⟩,⟨hT2B,hg2B⟩,nT1,nT2⟩;have HS3:Hid (TS w R P BB T1 g1 N1 cap1 B1 T2 g2 N2 cap2' B2 u9 S w3):=⟨HO3.out,HA13.out,HA23.out,HC3.out,HBs3.out⟩;have hvt:∀g,u9.ownBlock=some g->g<w3.heap.size:=fun g e=>(World.ownsRow.lt HO3.out g e).2;have hbl:=(Below.refl w3.heap.size w3).alloc (Qa _) (.cells #[.int .u8 0,.int .i64 (ln:Int),.int .i64 0] 119);have HS4:=Qf (HS3.out.below KB.out hbl);have HB4:=Qf (Blk.new w3 119 #[.int .u8 0,.int .i64 (ln:Int),.int .i64 0]);have htb:BB<=w3.heap.size:=HBs3.out;have Hk:Hid (∀p e,RdAt w3 R P s p z most e->RdAt (w3.alloc (.cells #[.int .u8 0,.int .i64 (ln:Int),.int .i64 0] 119)) R P s p z most e):=fun p e h=>h.keep hbl;obtain⟨w4,HW4⟩:=Qi (w3.alloc (.cells #[.int .u8 0,.int .i64 (ln:Int),.int .i64 0] 119));rw[HW4.out] at HS4 HB4 Hk ⊢;obtain⟨tb,Htb⟩:=Qi (w3.heap.size);rw[Htb.out] at HB4 htb hvt ⊢;have ntb:tb ≠ R/\tb ≠ P:=by omega
   have Hvt:=Qf hvt;clear HS3 hbl HW4 HO3 HA13 HA23 HC3 HBs3 hvt;rcases hcase with⟨herr,hR3,_⟩|⟨hok,hp2,hR3⟩
   . have HE:Hid (RES=.error 6):=K1.out 6 (by rw[Hst.out,herr];rfl)
     have HR4:=Qf (Hk.out _ _ hR3);obtain⟨p2,Hp2⟩:=Qi (p1+m1)
     have hp2b:p1<=p2/\p2<=p1+5:=by have:=Hp2.out;omega
     rw[Hp2.out] at HR4;clear hR3 Hk herr;refine(YfK R P s p2 z most 6 (by decide) _ w4 HR4.out).mono ?_;rintro r wt ⟨rfl,hRt,hCt⟩;have HRt:=Qf hRt;have HSt:=Qf (HS4.out.rch KB.out hCt);have HBt:=Qf (hCt.blk HB4.out ntb.1 ntb.2);clear hRt hCt HR4 HS4 HB4;have c3t:=HRt.out.1.cell 3;simp at c3t;have dq:decide ((z:Int)<0)=false:=Qh (by omega);have q2_:=HBt.out.cell 2;have q1_:=HRt.out.1.cell 1;simp at q1_ q2_;go_wp2_with fail
     go_quiet (fail)
     have HRd:=Qf (HRt.out.drewN nq);have HSd:Hid (TS w R P BB T1 g1 N1 cap1 B1 T2 g2 N2 cap2' B2 u9 S (wt.drewN nq)):=HSt.out.rch KB.out (Rch.drewN nq);have HBd:Hid (Blk (wt.drewN nq) tb 119 #[.int .u8 0,.int .i64 (ln:Int),.int .i64 0]):=HBt.out;obtain⟨wd,HWd⟩:=Qi (wt.drewN nq);rw[HWd.out] at HRd HSd HBd ⊢;clear HWd HRt HSt HBt q1_ q2_ dq;have HRt:=HRd;have HSt:=HSd;have HBt:=HBd;clear HRd HSd HBd;have g1_:=HBt.out.cell 1;simp at g1_;go_wp2_with fail;refine(Xz R P s p2 z most 6 ln (by omega) hmo (by omega) _ HRt.out).mono ?_;rintro r wg ⟨rfl,hRg,hCg⟩;rw[KS most (z+ln) 6 (by first|assumption|decide)] at hRg;have HRg:=Qf hRg;have HSg:=Qf (HSt.out.rch KB.out hCg);have HBg:=Qf (hCg.blk HBt.out ntb.1 ntb.2);have g0:=HBg.out.cell 0;have g2_:=HBg.out.cell 2;clear g1_;have g1_:=HBg.out.cell 1;simp at g0 g1_ g2_;clear hRg hCg HRt HSt HBt;have hos:=HSg.out.own;have hbsw:=HSg.out.sz;have hone:=KY (ln:Int) 0
     go_wp2_with (first
      |(at_builtin;go_must (refine Ya _ rfl (.tmp 100) (.tmp 102) rfl Tryz.underlying82 V7 rfl (by decide) BB u9 S.length (YU S) [.int .u8 0,.int .i64 (ln:Int),.int .i64 0] hos rfl hone rfl rfl rfl ?_ ?_ hbsw ?_;(unfold maxLen;omega);omega;intro v8 w8 hown8 hg8;have hb8:=Yb hos hg8 hbsw;have HS8:=Qf (HSg.out.app KB.out hb8 (U4 hown8));have HR8:=Qf (HRg.out.below hb8 KB.out.rb KB.out.pb);clear hown8 hg8 hb8 hos hbsw hone HSg HRg HBg g0 g1_ g2_))
      |fail)
     have HTR:Hid (TokRel L c D d most s RES p2 (z+ln) 6 (S++[⟨0,(ln:Int),0⟩])):=.inr ⟨by first|assumption|decide,HE.out⟩;have cm9:Ym w8 ⟨P,1,none⟩=p2:=Yf ((Blk.cell HR8.out.2.1 1).trans rfl);have Hcm9:=Qf cm9;clear cm9;go_roundw
     case rel=>exact⟨S++[⟨0,(ln:Int),0⟩],p2,z+ln,6,Qf HS8.out.own,by rw[List.length_append];show S.length+1<=p2;omega,by omega,by omega,HR8,Qf HS8.out.ch,Qf HS8.out.a1,Qf HS8.out.a2,HTR,Qf HS8.out.sz⟩
     rw[Hcm9.out,Hcm.out];omega
   have HR4:=Qf (Hk.out _ _ hR3);obtain⟨p2,Hp2⟩:=Qi (p1+m1)
   have hp2b:p1<=p2/\p2<=p1+5:=by have:=Hp2.out;omega
   rw[Hp2.out] at HR4 hok hp2;have hst:=Hst.out;rw[hok,Yj] at hst;have Hst2:=Qf hst;clear hR3 Hk hok hst Hst;refine(CS2.out p2 z w4 hp2 HS4.out.a2 HR4.out).mono ?_;rintro r wt ⟨q,p3,rfl,hCt,hp3,hp3b,⟨x,hx,hsy2,hRt,_⟩|⟨hsy2,hp3c,hqd,hRt⟩⟩
   . have HE:Hid (RES=.error x):=K1.out x (by rw[Hst2.out,hsy2];rfl)
     have HRt:=Qf hRt;have HSt:=Qf (HS4.out.rch KB.out hCt);have HBt:=Qf (hCt.blk HB4.out ntb.1 ntb.2);clear hRt hCt HR4 HS4 HB4 hsy2;have c3t:=HRt.out.1.cell 3;simp at c3t;have dxe:((x:Int)==0)=false:=(by simp;omega);have dq:decide ((z:Int)<0)=false:=Qh (by omega);have q2_:=HBt.out.cell 2;have q1_:=HRt.out.1.cell 1;simp at q1_ q2_;go_wp2_with fail
     go_quiet (fail)
     have HRd:=Qf (HRt.out.drewN nq);have HSd:Hid (TS w R P BB T1 g1 N1 cap1 B1 T2 g2 N2 cap2' B2 u9 S (wt.drewN nq)):=HSt.out.rch KB.out (Rch.drewN nq);have HBd:Hid (Blk (wt.drewN nq) tb 119 #[.int .u8 0,.int .i64 (ln:Int),.int .i64 0]):=HBt.out;obtain⟨wd,HWd⟩:=Qi (wt.drewN nq);rw[HWd.out] at HRd HSd HBd ⊢;clear HWd HRt HSt HBt q1_ q2_ dq;have HRt:=HRd;have HSt:=HSd;have HBt:=HBd;clear HRd HSd HBd;have g1_:=HBt.out.cell 1;simp at g1_;go_wp2_with fail;refine(Xz R P s p3 z most x ln (by omega) hmo (by omega) _ HRt.out).mono ?_;rintro r wg ⟨rfl,hRg,hCg⟩;rw[KS most (z+ln) x (by first|assumption|decide)] at hRg;have HRg:=Qf hRg;have HSg:=Qf (HSt.out.rch KB.out hCg);have HBg:=Qf (hCg.blk HBt.out ntb.1 ntb.2);have g0:=HBg.out.cell 0;have g2_:=HBg.out.cell 2;clear g1_;have g1_:=HBg.out.cell 1;simp at g0 g1_ g2_;clear hRg hCg HRt HSt HBt;have hos:=HSg.out.own;have hbsw:=HSg.out.sz;have hone:=KY (ln:Int) 0
     go_wp2_with (first
      |(at_builtin;go_must (refine Ya _ rfl (.tmp 100) (.tmp 102) rfl Tryz.underlying82 V7 rfl (by decide) BB u9 S.length (YU S) [.int .u8 0,.int .i64 (ln:Int),.int .i64 0] hos rfl hone rfl rfl rfl ?_ ?_ hbsw ?_;(unfold maxLen;omega);omega;intro v8 w8 hown8 hg8;have hb8:=Yb hos hg8 hbsw;have HS8:=Qf (HSg.out.app KB.out hb8 (U4 hown8));have HR8:=Qf (HRg.out.below hb8 KB.out.rb KB.out.pb);clear hown8 hg8 hb8 hos hbsw hone HSg HRg HBg g0 g1_ g2_))
      |fail)
     have HTR:Hid (TokRel L c D d most s RES p3 (z+ln) x (S++[⟨0,(ln:Int),0⟩])):=.inr ⟨by first|assumption|decide,HE.out⟩;have cm9:Ym w8 ⟨P,1,none⟩=p3:=Yf ((Blk.cell HR8.out.2.1 1).trans rfl);have Hcm9:=Qf cm9;clear cm9;go_roundw
     case rel=>exact⟨S++[⟨0,(ln:Int),0⟩],p3,z+ln,x,Qf HS8.out.own,by rw[List.length_append];show S.length+1<=p3;omega,by omega,by omega,HR8,Qf HS8.out.ch,Qf HS8.out.a1,Qf HS8.out.a2,HTR,Qf HS8.out.sz⟩
     rw[Hcm9.out,Hcm.out];omega
   have hst:=Hst2.out;rw[hsy2,Yj] at hst;have CF:=Qf (fun W=>YeC (q:Int) W);obtain⟨⟨b2,m2⟩,Hb2⟩:∃r,Hid (Yl true (q:Int)=r):=⟨_,Qf (Eq.refl _)⟩;rw[Hb2.out] at CF hst;have Hst3:=Qf hst;have HRt:=Qf hRt;have HSt:=Qf (HS4.out.rch KB.out hCt);have HBt:=Qf (hCt.blk HB4.out ntb.1 ntb.2);have c3t:=HRt.out.1.cell 3;simp at c3t;clear hRt hCt HR4 HS4 HB4 hsy2 hst Hst2 CS2;go_wp2_with fail;refine(CF.out _).mono ?_;rintro r w5 ⟨rfl,nq,rfl⟩;have HR5:=Qf (HRt.out.drewN nq);have HS5:Hid (TS w R P BB T1 g1 N1 cap1 B1 T2 g2 N2 cap2' B2 u9 S (wt.drewN nq)):=HSt.out.rch KB.out (Rch.drewN nq);have HB5:Hid (Blk (wt.drewN nq) tb 119 #[.int .u8 0,.int .i64 (ln:Int),.int .i64 0]):=HBt.out;obtain⟨w5,HW5⟩:=Qi (wt.drewN nq);rw[HW5.out] at HR5 HS5 HB5 ⊢;clear HW5 HRt HSt HBt c3t CF;by_cases h29:29<q
   . have eb:b2=0:=by have:=YfV (q:Int) (by omega);rw[Hb2.out] at this;exact(Prod.mk.inj this).1
     subst eb;have HE:Hid (RES=.error 3):=K1.out 3 (by rw[Hst3.out,if_pos h29]);go_wp2_with fail;refine(Vo R P s p3 z most 0 3 _ HR5.out).mono ?_;rintro r w6 ⟨rfl,hR6,hC6⟩;have HR6:Hid (RdAt w6 R P s p3 z most 3):=hR6;have HS6:=Qf (HS5.out.rch KB.out hC6);clear hR6 hC6;go_wp2_with fail;go_ret;exact TokPost.bad HS6.out.ch HS6.out.own hwB (by decide) HE.out HR6.out
   have hbf:=YfU q (by omega);rw[Hb2.out] at hbf;obtain⟨hb2a,hb2b,hm13⟩:=hbf;have hst:=Hst3.out;rw[if_neg h29] at hst;have Hst4:=Qf hst
   have db2:((b2:Int)==0)=false:=by
    have:b2 ≠ 0:=(by omega);simp[this]
   clear hst Hst3;have CB:=Qf (Ylu R P s p3 z most m2 (by omega) hs hp3c w5 HR5.out);go_wp2_with fail;refine CB.out.mono ?_;rintro r w6 ⟨v2,hv2k,hv2l,rfl,hC6,hcase⟩;obtain⟨dv,Hdv⟩:=Qi (b2+v2)
   have hdvI:(b2:Int)+(v2:Int)=(dv:Int):=by have:=Hdv.out;omega
   have hdvb:dv<=200000:=by have:=Hdv.out;omega
   have hwd:IntKind.i64.wrap ((b2:Int)+(v2:Int))=(dv:Int):=by rw[hdvI];exact IntWalk.i64_in _ (by omega)
   have HS6:=Qf (HS5.out.rch KB.out hC6);have HB6:=Qf (hC6.blk HB5.out ntb.1 ntb.2);have h2c:=HB6.out.cell 2;have h2f:=HB6.out.frozen 2;simp at h2c;have HS7:=Qf (HS6.out.set_ KB.out htb Hvt.out 2 (.int .i64 (dv:Int)))
   have HB7:Hid (Blk (w6.setCell ⟨tb,2,none⟩ (.int .i64 (dv:Int))) tb 119 #[.int .u8 0,.int .i64 (ln:Int),.int .i64 (dv:Int)]):=by
    show Blk _ _ _ _;have:=HB6.out.set_ 2 (.int .i64 (dv:Int))
    simpa using this
   have Hk:Hid (∀p e,RdAt w6 R P s p z most e->RdAt (w6.setCell ⟨tb,2,none⟩ (.int .i64 (dv:Int))) R P s p z most e):=fun p e h=>h.below ((Below.refl BB w6).setCell htb _) hRB hPB;clear CB HR5 HS5 HB5 hC6 hv2k;go_wp2_with fail;obtain⟨wt,HWt⟩:=Qi (w6.setCell ⟨tb,2,none⟩ (.int .i64 (dv:Int)));rw[HWt.out] at HS7 HB7 Hk ⊢;have HSt:=HS7;have HBt:=HB7;obtain⟨p4,Hp4⟩:=Qi (p3+m2)
   have hp4b:p3<=p4/\p4<=p3+13:=by have:=Hp4.out;omega
   rcases hcase with⟨herr,hR6,_⟩|⟨hok,hp4,hR6⟩
   . have HE:Hid (RES=.error 6):=K1.out 6 (by rw[Hst4.out,herr];rfl)
     have HRt:=Qf (Hk.out _ _ hR6);rw[Hp4.out] at HRt;clear hR6 Hk herr HS6 HB6 HS7 HB7 HWt h2c h2f Hst4;by_cases hdz:z<dv
     . have hdzI:(z:Int)<(dv:Int):=by omega
       have dq:decide ((z:Int)<(dv:Int))=true:=Qg (by omega);have q2_:=HBt.out.cell 2;have q1_:=HRt.out.1.cell 1;simp at q1_ q2_;go_wp2_with fail
       go_quiet (fail)
       have HRd:=Qf (HRt.out.drewN nq);have HSd:Hid (TS w R P BB T1 g1 N1 cap1 B1 T2 g2 N2 cap2' B2 u9 S (wt.drewN nq)):=HSt.out.rch KB.out (Rch.drewN nq);have HBd:Hid (Blk (wt.drewN nq) tb 119 #[.int .u8 0,.int .i64 (ln:Int),.int .i64 (dv:Int)]):=HBt.out;obtain⟨wd,HWd⟩:=Qi (wt.drewN nq);rw[HWd.out] at HRd HSd HBd ⊢;clear HWd HRt HSt HBt q1_ q2_ dq;go_wp2_with fail;refine(Vo R P s p4 z most 6 3 _ HRd.out).mono ?_;rintro r wf ⟨rfl,hRf,hCf⟩;rw[Ud 3 6 (by first|assumption|decide)] at hRf;have HRt:=Qf hRf;have HSt:=Qf (HSd.out.rch KB.out hCf);have HBt:=Qf (hCf.blk HBd.out ntb.1 ntb.2);clear hRf hCf HRd HSd HBd;have g1_:=HBt.out.cell 1;simp at g1_;go_wp2_with fail;refine(Xz R P s p4 z most 6 ln (by omega) hmo (by omega) _ HRt.out).mono ?_;rintro r wg ⟨rfl,hRg,hCg⟩;rw[KS most (z+ln) 6 (by first|assumption|decide)] at hRg;have HRg:=Qf hRg;have HSg:=Qf (HSt.out.rch KB.out hCg);have HBg:=Qf (hCg.blk HBt.out ntb.1 ntb.2);have g0:=HBg.out.cell 0;have g2_:=HBg.out.cell 2;clear g1_;have g1_:=HBg.out.cell 1;simp at g0 g1_ g2_;clear hRg hCg HRt HSt HBt;have hos:=HSg.out.own;have hbsw:=HSg.out.sz;have hone:=KY (ln:Int) (dv:Int)
       go_wp2_with (first
        |(at_builtin;go_must (refine Ya _ rfl (.tmp 100) (.tmp 102) rfl Tryz.underlying82 V7 rfl (by decide) BB u9 S.length (YU S) [.int .u8 0,.int .i64 (ln:Int),.int .i64 (dv:Int)] hos rfl hone rfl rfl rfl ?_ ?_ hbsw ?_;(unfold maxLen;omega);omega;intro v8 w8 hown8 hg8;have hb8:=Yb hos hg8 hbsw;have HS8:=Qf (HSg.out.app KB.out hb8 (U4 hown8));have HR8:=Qf (HRg.out.below hb8 KB.out.rb KB.out.pb);clear hown8 hg8 hb8 hos hbsw hone HSg HRg HBg g0 g1_ g2_))
        |fail)
       have HTR:Hid (TokRel L c D d most s RES p4 (z+ln) 6 (S++[⟨0,(ln:Int),(dv:Int)⟩])):=.inr ⟨by first|assumption|decide,HE.out⟩;have cm9:Ym w8 ⟨P,1,none⟩=p4:=Yf ((Blk.cell HR8.out.2.1 1).trans rfl);have Hcm9:=Qf cm9;clear cm9;go_roundw
       case rel=>exact⟨S++[⟨0,(ln:Int),(dv:Int)⟩],p4,z+ln,6,Qf HS8.out.own,by rw[List.length_append];show S.length+1<=p4;omega,by omega,by omega,HR8,Qf HS8.out.ch,Qf HS8.out.a1,Qf HS8.out.a2,HTR,Qf HS8.out.sz⟩
       rw[Hcm9.out,Hcm.out];omega
     have hdzI:¬(z:Int)<(dv:Int):=(by omega);have dq:decide ((z:Int)<(dv:Int))=false:=Qh (by omega);have q2_:=HBt.out.cell 2;have q1_:=HRt.out.1.cell 1;simp at q1_ q2_;go_wp2_with fail
     go_quiet (fail)
     have HRd:=Qf (HRt.out.drewN nq);have HSd:Hid (TS w R P BB T1 g1 N1 cap1 B1 T2 g2 N2 cap2' B2 u9 S (wt.drewN nq)):=HSt.out.rch KB.out (Rch.drewN nq);have HBd:Hid (Blk (wt.drewN nq) tb 119 #[.int .u8 0,.int .i64 (ln:Int),.int .i64 (dv:Int)]):=HBt.out;obtain⟨wd,HWd⟩:=Qi (wt.drewN nq);rw[HWd.out] at HRd HSd HBd ⊢;clear HWd HRt HSt HBt q1_ q2_ dq;have HRt:=HRd;have HSt:=HSd;have HBt:=HBd;clear HRd HSd HBd;have g1_:=HBt.out.cell 1;simp at g1_;go_wp2_with fail;refine(Xz R P s p4 z most 6 ln (by omega) hmo (by omega) _ HRt.out).mono ?_;rintro r wg ⟨rfl,hRg,hCg⟩;rw[KS most (z+ln) 6 (by first|assumption|decide)] at hRg;have HRg:=Qf hRg;have HSg:=Qf (HSt.out.rch KB.out hCg);have HBg:=Qf (hCg.blk HBt.out ntb.1 ntb.2);have g0:=HBg.out.cell 0;have g2_:=HBg.out.cell 2;clear g1_;have g1_:=HBg.out.cell 1;simp at g0 g1_ g2_;clear hRg hCg HRt HSt HBt;have hos:=HSg.out.own;have hbsw:=HSg.out.sz;have hone:=KY (ln:Int) (dv:Int)
     go_wp2_with (first
      |(at_builtin;go_must (refine Ya _ rfl (.tmp 100) (.tmp 102) rfl Tryz.underlying82 V7 rfl (by decide) BB u9 S.length (YU S) [.int .u8 0,.int .i64 (ln:Int),.int .i64 (dv:Int)] hos rfl hone rfl rfl rfl ?_ ?_ hbsw ?_;(unfold maxLen;omega);omega;intro v8 w8 hown8 hg8;have hb8:=Yb hos hg8 hbsw;have HS8:=Qf (HSg.out.app KB.out hb8 (U4 hown8));have HR8:=Qf (HRg.out.below hb8 KB.out.rb KB.out.pb);clear hown8 hg8 hb8 hos hbsw hone HSg HRg HBg g0 g1_ g2_))
      |fail)
     have HTR:Hid (TokRel L c D d most s RES p4 (z+ln) 6 (S++[⟨0,(ln:Int),(dv:Int)⟩])):=.inr ⟨by first|assumption|decide,HE.out⟩;have cm9:Ym w8 ⟨P,1,none⟩=p4:=Yf ((Blk.cell HR8.out.2.1 1).trans rfl);have Hcm9:=Qf cm9;clear cm9;go_roundw
     case rel=>exact⟨S++[⟨0,(ln:Int),(dv:Int)⟩],p4,z+ln,6,Qf HS8.out.own,by rw[List.length_append];show S.length+1<=p4;omega,by omega,by omega,HR8,Qf HS8.out.ch,Qf HS8.out.a1,Qf HS8.out.a2,HTR,Qf HS8.out.sz⟩
     rw[Hcm9.out,Hcm.out];omega
   have HRt:=Qf (Hk.out _ _ hR6);rw[Hp4.out] at HRt hok hp4;have hst:=Hst4.out;rw[hok,Yj] at hst;have e3:(sg s p4 z).out=z:=rfl;rw[e3,Hdv.out,Hln.out] at hst;have Hst5:=Qf hst;clear hR6 Hk hok HS6 HB6 HS7 HB7 HWt h2c h2f Hst4 hst e3;by_cases hdz:z<dv
   . have hdzI:(z:Int)<(dv:Int):=by omega
     have HE:Hid (RES=.error 3):=K1.out 3 (by rw[Hst5.out,if_pos hdz]);have dq:decide ((z:Int)<(dv:Int))=true:=Qg (by omega);have q2_:=HBt.out.cell 2;have q1_:=HRt.out.1.cell 1;simp at q1_ q2_;go_wp2_with fail
     go_quiet (fail)
     have HRd:=Qf (HRt.out.drewN nq);have HSd:Hid (TS w R P BB T1 g1 N1 cap1 B1 T2 g2 N2 cap2' B2 u9 S (wt.drewN nq)):=HSt.out.rch KB.out (Rch.drewN nq);have HBd:Hid (Blk (wt.drewN nq) tb 119 #[.int .u8 0,.int .i64 (ln:Int),.int .i64 (dv:Int)]):=HBt.out;obtain⟨wd,HWd⟩:=Qi (wt.drewN nq);rw[HWd.out] at HRd HSd HBd ⊢;clear HWd HRt HSt HBt q1_ q2_ dq;go_wp2_with fail;refine(Vo R P s p4 z most 0 3 _ HRd.out).mono ?_;rintro r wf ⟨rfl,hRf,hCf⟩;have HRt:Hid (RdAt wf R P s p4 z most 3):=hRf;have HSt:=Qf (HSd.out.rch KB.out hCf);have HBt:=Qf (hCf.blk HBd.out ntb.1 ntb.2);clear hRf hCf HRd HSd HBd;have g1_:=HBt.out.cell 1;simp at g1_;go_wp2_with fail;refine(Xz R P s p4 z most 3 ln (by omega) hmo (by omega) _ HRt.out).mono ?_;rintro r wg ⟨rfl,hRg,hCg⟩;rw[KS most (z+ln) 3 (by first|assumption|decide)] at hRg;have HRg:=Qf hRg;have HSg:=Qf (HSt.out.rch KB.out hCg);have HBg:=Qf (hCg.blk HBt.out ntb.1 ntb.2);have g0:=HBg.out.cell 0;have g2_:=HBg.out.cell 2;clear g1_;have g1_:=HBg.out.cell 1;simp at g0 g1_ g2_;clear hRg hCg HRt HSt HBt;have hos:=HSg.out.own;have hbsw:=HSg.out.sz;have hone:=KY (ln:Int) (dv:Int)
     go_wp2_with (first
      |(at_builtin;go_must (refine Ya _ rfl (.tmp 100) (.tmp 102) rfl Tryz.underlying82 V7 rfl (by decide) BB u9 S.length (YU S) [.int .u8 0,.int .i64 (ln:Int),.int .i64 (dv:Int)] hos rfl hone rfl rfl rfl ?_ ?_ hbsw ?_;(unfold maxLen;omega);omega;intro v8 w8 hown8 hg8;have hb8:=Yb hos hg8 hbsw;have HS8:=Qf (HSg.out.app KB.out hb8 (U4 hown8));have HR8:=Qf (HRg.out.below hb8 KB.out.rb KB.out.pb);clear hown8 hg8 hb8 hos hbsw hone HSg HRg HBg g0 g1_ g2_))
      |fail)
     have HTR:Hid (TokRel L c D d most s RES p4 (z+ln) 3 (S++[⟨0,(ln:Int),(dv:Int)⟩])):=.inr ⟨by first|assumption|decide,HE.out⟩;have cm9:Ym w8 ⟨P,1,none⟩=p4:=Yf ((Blk.cell HR8.out.2.1 1).trans rfl);have Hcm9:=Qf cm9;clear cm9;go_roundw
     case rel=>exact⟨S++[⟨0,(ln:Int),(dv:Int)⟩],p4,z+ln,3,Qf HS8.out.own,by rw[List.length_append];show S.length+1<=p4;omega,by omega,by omega,HR8,Qf HS8.out.ch,Qf HS8.out.a1,Qf HS8.out.a2,HTR,Qf HS8.out.sz⟩
     rw[Hcm9.out,Hcm.out];omega
   have hdzI:¬(z:Int)<(dv:Int):=by omega
   have dq:decide ((z:Int)<(dv:Int))=false:=Qh (by omega);have q2_:=HBt.out.cell 2;have q1_:=HRt.out.1.cell 1;simp at q1_ q2_;go_wp2_with fail
   go_quiet (fail)
   have HRd:=Qf (HRt.out.drewN nq);have HSd:Hid (TS w R P BB T1 g1 N1 cap1 B1 T2 g2 N2 cap2' B2 u9 S (wt.drewN nq)):=HSt.out.rch KB.out (Rch.drewN nq);have HBd:Hid (Blk (wt.drewN nq) tb 119 #[.int .u8 0,.int .i64 (ln:Int),.int .i64 (dv:Int)]):=HBt.out;obtain⟨wd,HWd⟩:=Qi (wt.drewN nq);rw[HWd.out] at HRd HSd HBd ⊢;clear HWd HRt HSt HBt q1_ q2_ dq;have HRt:=HRd;have HSt:=HSd;have HBt:=HBd;clear HRd HSd HBd;have g1_:=HBt.out.cell 1;simp at g1_;go_wp2_with fail;refine(Xz R P s p4 z most 0 ln (by omega) hmo (by omega) _ HRt.out).mono ?_;rintro r wg ⟨rfl,hRg,hCg⟩;have HRg:=Qf hRg;have HSg:=Qf (HSt.out.rch KB.out hCg);have HBg:=Qf (hCg.blk HBt.out ntb.1 ntb.2);have g0:=HBg.out.cell 0;have g2_:=HBg.out.cell 2;clear g1_;have g1_:=HBg.out.cell 1;simp at g0 g1_ g2_;clear hRg hCg HRt HSt HBt;have hos:=HSg.out.own;have hbsw:=HSg.out.sz;have hone:=KY (ln:Int) (dv:Int)
   go_wp2_with (first
    |(at_builtin;go_must (refine Ya _ rfl (.tmp 100) (.tmp 102) rfl Tryz.underlying82 V7 rfl (by decide) BB u9 S.length (YU S) [.int .u8 0,.int .i64 (ln:Int),.int .i64 (dv:Int)] hos rfl hone rfl rfl rfl ?_ ?_ hbsw ?_;(unfold maxLen;omega);omega;intro v8 w8 hown8 hg8;have hb8:=Yb hos hg8 hbsw;have HS8:=Qf (HSg.out.app KB.out hb8 (U4 hown8));have HR8:=Qf (HRg.out.below hb8 KB.out.rb KB.out.pb);clear hown8 hg8 hb8 hos hbsw hone HSg HRg HBg g0 g1_ g2_))
    |fail)
   have HTR:Hid (TokRel L c D d most s RES p4 (z+ln) (growE most (z+ln) 0) (S++[⟨0,(ln:Int),(dv:Int)⟩])):=by
    show TokRel _ _ _ _ _ _ _ _ _ _ _;have hst:=Hst5.out;rw[if_neg hdz] at hst;unfold VY at hst;have e2:(sg s p4 z).out=z:=rfl;rw[e2] at hst;by_cases hgr:most<z+ln
    . have e1:growE most (z+ln) 0=2:=by unfold growE;rw[if_pos hgr];rfl
      rw[e1];refine .inr ⟨by decide,K1.out 2 ?_⟩;rw[hst,if_pos hgr];rfl
    have e1:growE most (z+ln) 0=0:=(by unfold growE;rw[if_neg hgr]);rw[e1];refine K3.out _ p4 (z+ln) ?_ (by omega) (by omega) (by omega);rw[hst,if_neg hgr];rfl
   have cm9:Ym w8 ⟨P,1,none⟩=p4:=Yf ((Blk.cell HR8.out.2.1 1).trans rfl);have Hcm9:=Qf cm9;clear cm9;go_roundw
   case rel=>exact⟨S++[⟨0,(ln:Int),(dv:Int)⟩],p4,z+ln,(growE most (z+ln) 0),Qf HS8.out.own,by rw[List.length_append];show S.length+1<=p4;omega,by omega,by omega,HR8,Qf HS8.out.ch,Qf HS8.out.a1,Qf HS8.out.a2,HTR,Qf HS8.out.sz⟩
   rw[Hcm9.out,Hcm.out];omega
 have de:((e:Int)==0)=false:=by simp;omega
 rcases HT.out with⟨h,_⟩|⟨_,hE⟩
 . exact absurd h he
 have HE:=Qf hE;clear hE;go_wp2_with fail;go_ret;exact TokPost.bad HC.out HO.out hwB he HE.out HR.out
end Go.Proofs.YthehocmfpoglgaaGreat
