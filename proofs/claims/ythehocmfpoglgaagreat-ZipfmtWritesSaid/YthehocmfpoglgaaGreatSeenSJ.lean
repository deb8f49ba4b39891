/- The document's stored of layer 6. Printed by gen_seens.py. Conditions: texts of at most a hundred thousand bytes. -/
import Derived.Test.YthehocmfpoglgaaGreatJlflblb
import Derived.Test.YthehocmfpoglgaaGreatRLenJ
namespace Go.Proofs.YthehocmfpoglgaaGreat
open Go.RowKit
set_option maxRecDepth 100000
def SAt (w0 wt:World) (B:Nat) (a:Option Addr) (n cap p z most e:Nat):Prop:=
 Blk wt B 149 (SnC a n cap p z most e)/\Blk wt (B+1) 149 (SnC none 0 0 0 0 0 0)/\Below w0.heap.size w0 wt/\w0.heap.size<=B
section
variable {w0 wt w1:World} {B n cap p z most e:Nat} {a:Option Addr}
theorem SAt.below (h:SAt w0 wt B a n cap p z most e) (hb:Below wt.heap.size wt w1):SAt w0 w1 B a n cap p z most e:=⟨h.1.below hb h.1.lt,h.2.1.below hb h.2.1.lt,Yk h.2.2.1 hb,h.2.2.2⟩
def setS (wt:World) (B:Nat) (a:Option Addr) (n cap p z most e:Nat):World:=((((wt.setCell ⟨B,0,none⟩ (.slice a n cap)).setCell ⟨B,1,none⟩ (.int .i64 (p:Int))).setCell ⟨B,2,none⟩ (.int .i64 (z:Int))).setCell ⟨B,3,none⟩ (.int .i64 (most:Int))).setCell ⟨B,4,none⟩ (.int .i64 (e:Int))
theorem YbL {t:TypeId} {p' z' most' e':Nat} {a':Option Addr} {n' cap':Nat} (h:Blk wt B t (SnC a n cap p z most e)):Blk (setS wt B a' n' cap' p' z' most' e') B t (SnC a' n' cap' p' z' most' e'):=by
 have:=((((h.set_ 0 (.slice a' n' cap')).set_ 1 (.int .i64 (p':Int))).set_ 2 (.int .i64 (z':Int))).set_ 3 (.int .i64 (most':Int))).set_ 4 (.int .i64 (e':Int));unfold setS
 simpa [SnC] using this
theorem YX {t:TypeId} {g:Nat} {cs:Array Value} (h:Blk wt g t cs) (hg:g ≠ B):Blk (setS wt B a n cap p z most e) g t cs:=
 ((((h.far (p:=⟨B,0,none⟩) hg _).far (p:=⟨B,1,none⟩) hg _).far (p:=⟨B,2,none⟩) hg _).far (p:=⟨B,3,none⟩) hg _).far (p:=⟨B,4,none⟩) hg _
theorem Ya4 {k:Nat} (h:Below k w0 wt) (hk:k<=B):Below k w0 (setS wt B a n cap p z most e):=((((h.setCell (p:=⟨B,0,none⟩) hk _).setCell (p:=⟨B,1,none⟩) hk _).setCell (p:=⟨B,2,none⟩) hk _).setCell (p:=⟨B,3,none⟩) hk _).setCell (p:=⟨B,4,none⟩) hk _
theorem SAt.set_ (h:SAt w0 wt B a n cap p z most e) (p' z' most' e':Nat):SAt w0 (setS wt B a n cap p' z' most' e') B a n cap p' z' most' e':=⟨YbL h.1,YX h.2.1 (by omega),Ya4 h.2.2.1 h.2.2.2,h.2.2.2⟩
theorem SAt.cells (h:SAt w0 wt B a n cap p z most e):wt.cell? ⟨B,0,none⟩=some (.slice a n cap)/\wt.cell? ⟨B,1,none⟩=some (.int .i64 (p:Int))/\wt.cell? ⟨B,2,none⟩=some (.int .i64 (z:Int))/\wt.cell? ⟨B,3,none⟩=some (.int .i64 (most:Int))/\wt.cell? ⟨B,4,none⟩=some (.int .i64 (e:Int))/\
 wt.frozen? ⟨B,0,none⟩=false/\wt.frozen? ⟨B,1,none⟩=false/\wt.frozen? ⟨B,2,none⟩=false/\wt.frozen? ⟨B,3,none⟩=false/\wt.frozen? ⟨B,4,none⟩=false:=
 ⟨h.1.cell 0,h.1.cell 1,h.1.cell 2,h.1.cell 3,h.1.cell 4,h.1.frozen 0,h.1.frozen 1,h.1.frozen 2,h.1.frozen 3,h.1.frozen 4⟩
theorem SAt.res (h:SAt w0 wt B a n cap p z most e):wt.cell? ⟨B+1,0,none⟩=some (.slice none 0 0)/\wt.cell? ⟨B+1,1,none⟩=some (.int .i64 0)/\wt.cell? ⟨B+1,2,none⟩=some (.int .i64 0)/\wt.cell? ⟨B+1,3,none⟩=some (.int .i64 0)/\wt.cell? ⟨B+1,4,none⟩=some (.int .i64 0)/\
 wt.frozen? ⟨B+1,0,none⟩=false/\wt.frozen? ⟨B+1,1,none⟩=false/\wt.frozen? ⟨B+1,2,none⟩=false/\wt.frozen? ⟨B+1,3,none⟩=false/\wt.frozen? ⟨B+1,4,none⟩=false:=
 ⟨h.2.1.cell 0,h.2.1.cell 1,h.2.1.cell 2,h.2.1.cell 3,h.2.1.cell 4,h.2.1.frozen 0,h.2.1.frozen 1,h.2.1.frozen 2,h.2.1.frozen 3,h.2.1.frozen 4⟩
theorem SAt.ret (h:SAt w0 wt B a n cap p z most e) (a':Option Addr) (n' cap' p' z' most' e':Nat):Blk (setS wt (B+1) a' n' cap' p' z' most' e') (B+1) 149 (SnC a' n' cap' p' z' most' e')/\Below w0.heap.size w0 (setS wt (B+1) a' n' cap' p' z' most' e'):=
 ⟨YbL h.2.1,Ya4 h.2.2.1 (by have:=h.2.2.2;omega)⟩
end
theorem YkY (k:Nat):∀X,VV X k=YB X k:=by
 induction k with
 |zero=>intro X;rfl
 |succ k ih=>
  intro X;show UInt8.ofNat (X%256)::VV (X/256) k=_;rw[ih];unfold YB;rw[List.range_succ_eq_map,List.map_cons,List.map_map]
  congr 1
  . simp
  refine List.map_congr_left fun i _=>?_;show _=UInt8.ofNat (X/256^(i+1)%256);rw[Nat.div_div_eq_div_mul,Nat.pow_succ,Nat.mul_comm]
theorem Yk1 {w:World} {ab N V:Nat} (h:BRow w (some ⟨ab,0,none⟩) N V) (p k:Nat) (hk:p+k<=N):BRow w (some ⟨ab,0+p,none⟩) k (V/2^p%2^k):=by
 rcases Nat.eq_zero_or_pos k with rfl|h0
 . exact .inl rfl
 rcases h with h|⟨b,off,e,h2,h3⟩
 . omega
 injection e with e;injection e with e1 e2;subst e1 e2;refine .inr ⟨ab,0+p,rfl,h2,fun i hi=>?_⟩;have:=h3 (p+i) (by omega);rw[show 0+p+i=0+(p+i) by omega,this];unfold bval;rw[Nat.testBit_mod_two_pow,Nat.testBit_div_two_pow,decide_eq_true hi,Bool.true_and,Nat.add_comm]
def YmY {β:Type} (most:Nat) (f:List UInt8->Sg->Rs β) (a b:Nat) (σ2:Sg):Rs β:=if a+b ≠ 65535 then .error 3 else Yc (JK a σ2) fun l σ3=>Yc (VY most a σ3) fun _ σ4=>f l σ4
def YmZ {β:Type} (most:Nat) (f:List UInt8->Sg->Rs β) (a:Nat) (σ1:Sg):Rs β:=Yc (Yy 16 σ1) (YmY most f a)
theorem LR.even {β:Type} {s:ByteArray} {RES:Rs β} {p z e most:Nat} {f:List UInt8->Sg->Rs β} (h:LR s RES p z e (fun σ=>Yc (Vz most σ) f)):LR s RES ((p+7)/8*8) z e (fun σ=>Yc (Yy 16 σ) (YmZ most f)):=by
 rcases h with⟨rfl,h1,h2⟩|⟨h1,h2⟩
 . obtain⟨e1,e2⟩:=YiY s p z h1
   refine .inl ⟨rfl,e2,?_⟩;rw[<-h2,<-e1];dsimp only;rw[Ycv,Yi]
   congr 1
   funext a σ1;rw[Yi];unfold YmZ
   congr 1
   funext b σ2;unfold YmY;split
   . rfl
   rw[Yi]
   congr 1
   funext l σ3;rw[Yi];rfl
 exact .inr ⟨h1,h2⟩
theorem YlK (s:ByteArray) (p z k:Nat) (hp:p+8*k<=8*s.size):JK k (sg s p z)=.ok (VV (num s/2^p) k,sg s (p+8*k) z):=by
 unfold JK sg;rw[if_neg (by show ¬8*s.size-p<8*k;omega),Nat.div_div_eq_div_mul,<-Nat.pow_add];show Except.ok (_,(⟨_,8*s.size-p-8*k,z⟩:Sg))=_;rw[Nat.sub_sub]
theorem YfG (s:ByteArray) (p z k:Nat) (hp:8*s.size<p+8*k) (hp0:p<=8*s.size):JK k (sg s p z)=.error 6:=by
 unfold JK sg;rw[if_pos (by show 8*s.size-p<8*k;omega)]
theorem LR.short {β:Type} {s:ByteArray} {RES:Rs β} {p z e k:Nat} {G:List UInt8->Sg->Rs β} (h:LR s RES p z e (fun σ=>Yc (JK k σ) G)) (hk:8*s.size<p+8*k):LR s RES p z (Yu e 6) (fun σ=>Yc (JK k σ) G):=by
 unfold Yu;rcases h with⟨rfl,h1,h2⟩|⟨h1,h2⟩
 . refine .inr ⟨by decide,?_⟩
   rw[<-h2];dsimp only;rw[YfG s p z k hk h1];rfl
 rw[if_neg h1];exact .inr ⟨h1,h2⟩
theorem LR.taken {β:Type} {s:ByteArray} {RES:Rs β} {p z k:Nat} {G:List UInt8->Sg->Rs β} (h:LR s RES p z 0 (fun σ=>Yc (JK k σ) G)) (hk:p+8*k<=8*s.size):LR s RES (p+8*k) z 0 (G (VV (num s/2^p) k)):=by
 have h2:=h.ok.2;rw[YlK s p z k hk,Yj] at h2;exact .inl ⟨rfl,hk,h2⟩
theorem LR.grown {β:Type} {s:ByteArray} {RES:Rs β} {p z k most:Nat} {G:Unit->Sg->Rs β} (h:LR s RES p z 0 (fun σ=>Yc (VY most k σ) G)):LR s RES p (z+k) (if most<z+k then 2 else 0) (G ()):=by
 obtain⟨h1,h2⟩:=h.ok;by_cases hc:most<z+k
 . rw[if_pos hc]
   refine .inr ⟨by decide,?_⟩;rw[<-h2];unfold VY;rw[if_pos (by show most<z+k;exact hc)];rfl
 rw[if_neg hc];refine .inl ⟨rfl,h1,?_⟩;rw[<-h2];unfold VY;rw[if_neg (by show ¬most<z+k;exact hc)];rfl
theorem SAt.set12 {w0 wt:World} {B n cap p z most e:Nat} {a:Option Addr} (h:SAt w0 wt B a n cap p z most e) (p' z':Nat):SAt w0 ((wt.setCell ⟨B,1,none⟩ (.int .i64 (p':Int))).setCell ⟨B,2,none⟩ (.int .i64 (z':Int))) B a n cap p' z' most e:=by
 refine⟨?_,(h.2.1.far (p:=⟨B,1,none⟩) (by show B+1 ≠ B;omega) _).far (p:=⟨B,2,none⟩) (by show B+1 ≠ B;omega) _,(h.2.2.1.setCell (p:=⟨B,1,none⟩) h.2.2.2 _).setCell (p:=⟨B,2,none⟩) h.2.2.2 _,h.2.2.2⟩;have:=(h.1.set_ 1 (.int .i64 (p':Int))).set_ 2 (.int .i64 (z':Int))
 simpa [SnC] using this
set_option maxHeartbeats 16000000 in
theorem Yaf (ab:Nat) (s:ByteArray) (hs:s.size<=12500) (p z most e:Nat) (hp:p<=900000) (hz:z<=1000000) (_hm:most<=1000000) {β:Type} (RES:Rs β) (f:List UInt8->Sg->Rs β) (hL:LR s RES p z e (fun σ=>Yc (Vz most σ) f))
 (w:World) (hb:BRow w (some ⟨ab,0,none⟩) (8*s.size) (num s)) :
 Calls Tryz.prog 80 #[SnV (some ⟨ab,0,none⟩) (8*s.size) (8*s.size) p z most e] w fun r w'=>∃(p' z' e':Nat) (l:List UInt8),r=.returned (.tuple #[SnV (some ⟨ab,0,none⟩) (8*s.size) (8*s.size) p' z' most e',.string ⟨l.toArray⟩])/\Hid (LR s RES p' z' e' (f l))/\p<=p'/\(e'=0->z'<=most)/\Below w.heap.size w w':=by
 have CN1:=Qf (fun p2 z2 e2 (h2:p2<=1000000) (f:Nat->Sg->Rs β) W hL hW=>YbR (some ⟨ab,0,none⟩) (8*s.size) s (by omega) p2 z2 most e2 16 (by decide) h2 RES f hL W hW);have HB0:=Qf hb;have CW:=Qf (fun p z e c is W=>Uz (some ⟨ab,0,none⟩) (8*s.size) (8*s.size) p z most e c is W);have HL0:=Qf hL.even;have CT:=Qf (fun p k (hk1:8*k<=100000) (hk:p+8*k<=8*s.size) W hW=>YcE (some ⟨ab,0+p,none⟩) (8*s.size-p) (8*k) (num s/2^p%2^(8*k)) hk1 (Nat.mod_lt _ (Nat.two_pow_pos _)) W (Yk1 hW p (8*k) hk) (fun h=>by cases h));obtain⟨N,HN⟩:=Qi (8*s.size)
 have hNl:N<=800000:=by have:=HN.out;omega
 rw[HN.out] at CN1 CW HB0 CT ⊢;clear hb hL;obtain⟨p0,Hp0⟩:=Qi ((p+7)/8*8)
 have q1:((p:Int)+7).tdiv 8*8=(p0:Int):=by rw[Int.tdiv_eq_ediv_of_nonneg (by omega)];have:=Hp0.out;omega
 have q2:((p:Int)+7)/8*8=(p0:Int):=by have:=Hp0.out;omega
 have hp0:p0<=900008:=by have:=Hp0.out;omega
 rw[Hp0.out] at HL0
 have hpp0:p<=p0:=by have:=Hp0.out;omega
 unfold SnV SnC at CN1 CW ⊢;have hBx:∀(A B:Array Value),Blk ((w.alloc (.cells A 149)).alloc (.cells B 149)) w.heap.size 149 A:=fun A B=>heap_alloc2_old w _ _;have hbb:∀(A B:Array Value),Below w.heap.size w ((w.alloc (.cells A 149)).alloc (.cells B 149)):=fun A B=>((Below.refl w.heap.size w).alloc (Qa _) _).alloc (by simp) _;have hBy:∀(A B:Array Value),Blk ((w.alloc (.cells A 149)).alloc (.cells B 149)) (w.heap.size+1) 149 B:=fun A B=>heap_alloc2_new w _ _;have HBx:=Qf hBx;have HBy:=Qf hBy;have Hbb:=Qf hbb;clear hBx hBy hbb;go_enter Tryz.func80,Tryz.ntmps80;go_wp2_with fail;have HS0:Hid (SAt w ((w.alloc (.cells #[.slice (some ⟨ab,0,none⟩) N N,.int .i64 (p0:Int),.int .i64 (z:Int),.int .i64 (most:Int),.int .i64 (e:Int)] 149)).alloc (.cells #[.slice none 0 0,.int .i64 0,.int .i64 0,.int .i64 0,.int .i64 0] 149)) w.heap.size (some ⟨ab,0,none⟩) N N p0 z most e):=⟨HBx.out _ _,HBy.out _ _,Hbb.out _ _,Qa _⟩;obtain⟨w1,HW1⟩:=Qi ((w.alloc (.cells #[.slice (some ⟨ab,0,none⟩) N N,.int .i64 (p0:Int),.int .i64 (z:Int),.int .i64 (most:Int),.int .i64 (e:Int)] 149)).alloc (.cells #[.slice none 0 0,.int .i64 0,.int .i64 0,.int .i64 0,.int .i64 0] 149));rw[HW1.out] at HS0 ⊢;obtain⟨B,HB⟩:=Qi (w.heap.size);have HS1:Hid (SAt w w1 B (some ⟨ab,0,none⟩) N N p0 z most e):=by show SAt _ _ _ _ _ _ _ _ _ _;rw[<-HB.out];exact HS0.out
 rw[HB.out];clear HS0 HW1 HBx HBy Hbb;refine(CN1.out p0 z e (by omega) _ w1 HL0.out (HB0.out.below HS1.out.2.2.1 (Qa _))).mono ?_;rintro r w2 ⟨p1,v1,e1,rfl,HL1,hv1,hp1,hp1',hz1,hb1⟩;have HS2:=Qf (HS1.out.below hb1);obtain⟨c0,c1,c2,c3,c4,f0,f1,f2,f3,f4⟩:=HS2.out.cells;have Hz1:=Qf hz1;have hv1b:v1<65536:=hv1;clear hb1 HS1 HL0 hz1 hv1;go_wp2_with fail;change Calls _ _ _ (setS w2 B (some ⟨ab,0,none⟩) N N p1 z most e1) _;have HSn:=Qf (HS2.out.set_ p1 z most e1);obtain⟨W3,HW3⟩:=Qi (setS w2 B (some ⟨ab,0,none⟩) N N p1 z most e1);rw[HW3.out] at HSn ⊢;have HSk3:=HSn;clear HSn HW3;clear c0 c1 c2 c3 c4 f0 f1 f2 f3 f4 HS2;refine(CN1.out p1 z e1 (by omega) _ W3 HL1.out (HB0.out.below HSk3.out.2.2.1 (Qa _))).mono ?_;rintro r w4 ⟨p2,v2,e2,rfl,HL2,hv2,hp2,hp2',hz2,hb2⟩;have HS4:=Qf (HSk3.out.below hb2);obtain⟨c0,c1,c2,c3,c4,f0,f1,f2,f3,f4⟩:=HS4.out.cells;have hv2b:v2<65536:=hv2;obtain⟨D,HD⟩:∃D:Bool,Hid ((((v1:Int)+(v2:Int))!=65535)=D):=⟨_,Qf (Eq.refl _)⟩;have hD:=HD.out;clear hb2 HSk3 HL1 hv2;go_wp2_with fail;change Calls _ _ _ (setS w4 B (some ⟨ab,0,none⟩) N N p2 z most e2) _;have HSn:=Qf (HS4.out.set_ p2 z most e2);obtain⟨W5,HW5⟩:=Qi (setS w4 B (some ⟨ab,0,none⟩) N N p2 z most e2);rw[HW5.out] at HSn ⊢;have HSk5:=HSn;clear HSn HW5;clear c0 c1 c2 c3 c4 f0 f1 f2 f3 f4 HS4;obtain⟨e3,He3⟩:=Qi ((if D then Yu e2 3 else e2));have C3:=CW.out p2 z e2 3 D W5;rw[He3.out] at C3
 have HL3:Hid (LR s RES p2 z e3 (fun σ=>Yc (JK v1 σ) fun l σ3=>Yc (VY most v1 σ3) fun _ σ4=>f l σ4)):=by
  show LR _ _ _ _ _ _;rw[<-He3.out]
  cases hDc:D with
  |true=>
   rw[if_pos rfl];exact LR.stop HL2.out (by rw[hDc] at hD;simp at hD;omega) (by decide)
  |false=>
   rw[if_neg (by decide)];exact LR.pass HL2.out (by rw[hDc] at hD;simp at hD;omega)
 have HC3:=Qf C3;clear C3 HL2 He3 hD HD;refine HC3.out.mono ?_;rintro r w6 ⟨rfl,hb3⟩;have HS6:=Qf (HSk5.out.below hb3);obtain⟨c0,c1,c2,c3,c4,f0,f1,f2,f3,f4⟩:=HS6.out.cells;obtain⟨g,Hg⟩:=Qi (8*v1)
 have hgI:(8:Int)*(v1:Int)=(g:Int):=by have:=Hg.out;omega
 have hgl:g<=524288:=by have:=Hg.out;omega
 obtain⟨D2,HD2⟩:∃D:Bool,Hid (decide ((N:Int)<(p2:Int)+(g:Int))=D):=⟨_,Qf (Eq.refl _)⟩;have hD2:=HD2.out;clear hb3 HSk5 HC3;go_wp2_with fail;change Calls _ _ _ (setS w6 B (some ⟨ab,0,none⟩) N N p2 z most e3) _;have HSn:=Qf (HS6.out.set_ p2 z most e3);obtain⟨W7,HW7⟩:=Qi (setS w6 B (some ⟨ab,0,none⟩) N N p2 z most e3);rw[HW7.out] at HSn ⊢;have HSk7:=HSn;clear HSn HW7;clear c0 c1 c2 c3 c4 f0 f1 f2 f3 f4 HS6;obtain⟨e4,He4⟩:=Qi ((if D2 then Yu e3 6 else e3));have C4:=CW.out p2 z e3 6 D2 W7;rw[He4.out] at C4
 have HL4:Hid (LR s RES p2 z e4 (fun σ=>Yc (JK v1 σ) fun l σ3=>Yc (VY most v1 σ3) fun _ σ4=>f l σ4)):=by
  show LR _ _ _ _ _ _;rw[<-He4.out]
  cases hDc:D2 with
  |true=>
   rw[if_pos rfl];rw[hDc,decide_eq_true_eq] at hD2;exact LR.short HL3.out (by have:=Hg.out;have:=HN.out;omega)
  |false=>
   rw[if_neg (by decide)];exact HL3.out
 have Hfit:Hid (e4=0->p2+g<=N):=fun h0=>by
  have:=He4.out
  cases hDc:D2 with
  |true=>
   rw[hDc,if_pos rfl] at this;unfold Yu at this;split at this<;>omega
  |false=>
   rw[hDc,decide_eq_false_iff_not] at hD2;omega
 have HC4:=Qf C4;clear C4 HL3 He4 hD2 HD2;refine HC4.out.mono ?_;rintro r w8 ⟨rfl,hb4⟩;have HS8:=Qf (HSk7.out.below hb4);obtain⟨c0,c1,c2,c3,c4,f0,f1,f2,f3,f4⟩:=HS8.out.cells;clear hb4 HSk7 HC4;by_cases he4:e4=0
 . subst he4
   have hfit:=Hfit.out rfl;have hfitI:(p2:Int)+(g:Int)<=(N:Int):=by omega
   obtain⟨l,Hl⟩:=Qi (VV (num s/2^p2) v1);obtain⟨p3,Hp3⟩:=Qi (p2+g);obtain⟨z3,Hz3⟩:=Qi (z+v1)
   have Hp3I:Hid ((p2:Int)+(g:Int)=(p3:Int)):=by show _=_;have:=Hp3.out;omega
   have Hz3I:Hid ((z:Int)+(v1:Int)=(z3:Int)):=by show _=_;have:=Hz3.out;omega
   have hp3l:p3<=2000000:=by have:=Hp3.out;omega
   have hz3l:z3<=2000000:=by have:=Hz3.out;omega
   obtain⟨D3,HD3⟩:∃D:Bool,Hid (decide ((most:Int)<(z3:Int))=D):=⟨_,Qf (Eq.refl _)⟩;have hD3:=HD3.out;have hD3b:decide (most<z3)=D3:=by rw[<-hD3];simp
   obtain⟨e5,He5⟩:∃x:Nat,Hid ((if D3 then Yu 0 2 else 0)=x):=⟨_,Qf (Eq.refl _)⟩
   have HL5:Hid (LR s RES p3 z3 e5 (f l)):=by
    show LR _ _ _ _ _ _;have h:=(LR.taken HL4.out (by have:=Hg.out;have:=HN.out;omega)).grown;rw[Hl.out] at h;rw[<-He5.out,<-Hp3.out,<-Hz3.out,<-Hg.out]
    have e6:(if D3 then Yu 0 2 else 0)=if most<z+v1 then 2 else 0:=by
     cases hDc:D3 with
     |true=>
      rw[hDc,decide_eq_true_eq] at hD3;rw[if_pos rfl,if_pos (by have:=Hz3.out;omega)];rfl
     |false=>
      rw[hDc,decide_eq_false_iff_not] at hD3;rw[if_neg (by decide),if_neg (by have:=Hz3.out;omega)]
    rw[e6];exact h
   have C5:=fun W=>CW.out p3 z3 0 2 D3 W;rw[He5.out] at C5;have HC5:=Qf C5
   have hlb:YB (num s/2^p2%2^g) ((g+7)/8)=l:=by
    rw[<-Hl.out,<-YkY,show(g+7)/8=v1 by have:=Hg.out;omega];exact YgY v1 _ g (by have:=Hg.out;omega)
   have Hlb:=Qf hlb
   have Hze:Hid (e5=0->z3<=most):=Qf (fun h0=>by
    have:=He5.out
    cases hDc:D3 with
    |true=>rw[hDc] at this;unfold Yu at this;simp at this;omega
    |false=>rw[hDc,decide_eq_false_iff_not] at hD3;omega)
   clear HL4 He5 C5 hlb Hz3;by_cases hpe:p2=N
   . have hg0:g=0:=by omega
     subst hpe;subst hg0
     have hp32:p2=p3:=by have:=Hp3.out;omega
     subst hp32
     have CT0:Hid (∀W c,Calls Tryz.prog 103 #[.slice (some ⟨ab,0,none⟩) 0 c] W fun r w'=>r=.returned (.string ⟨l.toArray⟩)/\Below W.heap.size W w'):=Qf fun W c=>by
      have:=YcE (some ⟨ab,0,none⟩) c 0 0 (by decide) (by decide) W (.inl rfl) (fun h=>by cases h)
      have e:YB 0 ((0+7)/8)=l:=by
       rw[<-Hlb.out,Nat.pow_zero,Nat.mod_one]
      rw[e] at this;exact this
     go_wp2_with fail;change Calls _ _ _ (setS w8 B (some ⟨ab,0,none⟩) p2 p2 p2 z most 0) _;have HSn:=Qf (HS8.out.set_ p2 z most 0);obtain⟨W9,HW9⟩:=Qi (setS w8 B (some ⟨ab,0,none⟩) p2 p2 p2 z most 0);rw[HW9.out] at HSn ⊢;have HSk9:=HSn;clear HSn HW9;clear c0 c1 c2 c3 c4 f0 f1 f2 f3 f4 HS8;refine(CT0.out W9 _).mono ?_;rintro r w10 ⟨rfl,hb10⟩;have HS10:=Qf (HSk9.out.below hb10);have hz3I:=Hz3I.out;obtain⟨c0,c1,c2,c3,c4,f0,f1,f2,f3,f4⟩:=HS10.out.cells;clear hb10 HSk9;go_wp2_with fail;have HS11:=Qf (HS10.out.set12 p2 z3);obtain⟨W11,HW11⟩:=Qi ((w10.setCell ⟨B,1,none⟩ (.int .i64 (p2:Int))).setCell ⟨B,2,none⟩ (.int .i64 (z3:Int)));rw[HW11.out] at HS11 ⊢;clear c0 c1 c2 c3 c4 f0 f1 f2 f3 f4 HS10 HW11;refine(HC5.out W11).mono ?_;rintro r w12 ⟨rfl,hb12⟩;have HS12:=Qf (HS11.out.below hb12);obtain⟨d0,d1,d2,d3,d4,g0,g1,g2,g3,g4⟩:=HS12.out.res;clear hb12 HS11 HC5;go_wp2_with fail
     (try simp only[Exit.inBlock,Exit.then])
     refine bodyPost_ret (Y8 rfl rfl (HS12.out.ret _ _ _ p2 z3 most e5).1) rfl ?_;exact⟨p2,z3,e5,l,rfl,HL5,by omega,Hze.out,(HS12.out.ret _ _ _ p2 z3 most e5).2⟩
   have hlt:p2<N:=by omega
   have CT1:Hid (∀W,BRow W (some ⟨ab,0,none⟩) N (num s)->Calls Tryz.prog 103 #[.slice (some ⟨ab,p2,none⟩) g (N-p2)] W fun r w'=>r=.returned (.string ⟨l.toArray⟩)/\Below W.heap.size W w'):=Qf fun W hW=>by
    have:=CT.out p2 v1 (by have:=Hg.out;have:=HN.out;omega) (by have:=Hg.out;omega) W hW;rw[Hg.out,Nat.zero_add,Hlb.out] at this;exact this
   go_wp2_with fail;change Calls _ _ _ (setS w8 B (some ⟨ab,0,none⟩) N N p2 z most 0) _;have HSn:=Qf (HS8.out.set_ p2 z most 0);obtain⟨W9,HW9⟩:=Qi (setS w8 B (some ⟨ab,0,none⟩) N N p2 z most 0);rw[HW9.out] at HSn ⊢;have HSk9:=HSn;clear HSn HW9;clear c0 c1 c2 c3 c4 f0 f1 f2 f3 f4 HS8;refine(CT1.out W9 (HB0.out.below HSk9.out.2.2.1 (Qa _))).mono ?_;rintro r w10 ⟨rfl,hb10⟩;have HS10:=Qf (HSk9.out.below hb10);have hp3I:=Hp3I.out;have hz3I:=Hz3I.out;obtain⟨c0,c1,c2,c3,c4,f0,f1,f2,f3,f4⟩:=HS10.out.cells;clear hb10 HSk9;go_wp2_with fail;have HS11:=Qf (HS10.out.set12 p3 z3);obtain⟨W11,HW11⟩:=Qi ((w10.setCell ⟨B,1,none⟩ (.int .i64 (p3:Int))).setCell ⟨B,2,none⟩ (.int .i64 (z3:Int)));rw[HW11.out] at HS11 ⊢;clear c0 c1 c2 c3 c4 f0 f1 f2 f3 f4 HS10 HW11;refine(HC5.out W11).mono ?_;rintro r w12 ⟨rfl,hb12⟩;have HS12:=Qf (HS11.out.below hb12);obtain⟨d0,d1,d2,d3,d4,g0,g1,g2,g3,g4⟩:=HS12.out.res;clear hb12 HS11 HC5;go_wp2_with fail
   (try simp only[Exit.inBlock,Exit.then])
   refine bodyPost_ret (Y8 rfl rfl (HS12.out.ret _ _ _ p3 z3 most e5).1) rfl ?_;exact⟨p3,z3,e5,l,rfl,HL5,by have:=Hp3.out;omega,Hze.out,(HS12.out.ret _ _ _ p3 z3 most e5).2⟩
 have de4:((e4:Int)==0)=false:=by simp;omega
 have de4b:((e4:Int)!=0)=true:=by simp;omega
 have HL5:Hid (LR s RES p2 z e4 (f [])):=HL4.out.moved he4;have heX:e4 ≠ 0:=he4;clear HL4 he4;have HS9:=Qf (HS8.out.set_ p2 z most e4);obtain⟨d0,d1,d2,d3,d4,g0,g1,g2,g3,g4⟩:=HS8.out.res;go_wp2_with fail
 (try simp only[Exit.inBlock,Exit.then])
 refine bodyPost_ret (Y8 rfl rfl (HS9.out.ret _ _ _ p2 z most e4).1) rfl ?_;exact⟨p2,z,e4,[],rfl,HL5,by omega,fun h0=>absurd h0 heX,(HS9.out.ret _ _ _ p2 z most e4).2⟩
end Go.Proofs.YthehocmfpoglgaaGreat
