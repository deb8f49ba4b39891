/- The document's dynamic of layer 6. Printed by gen_seend.py. Conditions: texts of at most 12500 bytes. -/
import Derived.Test.YthehocmfpoglgaaGreatSeenTJ
import Derived.Test.YthehocmfpoglgaaGreatRLenJ
import Derived.Deep.CutBlock
import Derived.StillTailTactics
namespace Go.Proofs.YthehocmfpoglgaaGreat
open Go.RowKit
set_option maxRecDepth 100000
theorem Ykl {w:World} {BB g:Nat} {v:Value} {l:List Nat} (h:OwnN w BB v l) (hg:∀k,v.ownBlock=some k->k ≠ g) (i:Nat) (u:Value):OwnN (w.setCell ⟨g,i,none⟩ u) BB v l:=by
 refine World.ownsRow.kept h (Kc w ⟨g,i,none⟩ u) ?_
 cases hv:v.ownBlock with
 |none=>exact .inl rfl
 |some k=>
  refine .inr fun e=>?_;injection e with e;exact hg k hv e
theorem VM {w:World} {B BB n cap p z most e:Nat} {a:Option Addr} {v:Value} {l:List Nat} (h:OwnN w BB v l) (hB:B<BB):OwnN (setS w B a n cap p z most e) BB v l:=by
 have hk:∀i u (W:World),OwnN W BB v l->OwnN (W.setCell ⟨B,i,none⟩ u) BB v l:=fun i u W hW=>Ykl hW (fun k hk=>by have:=(World.ownsRow.lt hW k hk).1;omega) i u;exact hk 4 _ _ (hk 3 _ _ (hk 2 _ _ (hk 1 _ _ (hk 0 _ _ h))))
theorem XF {w:World} {B n cap p z most e k:Nat} {a au:Option Addr} {F:Nat->Nat} (h:URow w au k F) (hn:∀b off sp,au=some ⟨b,off,sp⟩->b ≠ B):URow (setS w B a n cap p z most e) au k F:=by
 rcases h with h|⟨b,off,rfl,k2,k3⟩
 . exact .inl h
 have hb:=hn b off none rfl
 have e:(setS w B a n cap p z most e).heap[b]?=w.heap[b]?:=by
  have f:∀(W:World) i u,(W.setCell ⟨B,i,none⟩ u).heap[b]?=W.heap[b]?:=fun W i u=>Below.heap_setCell W ⟨B,i,none⟩ u b hb;unfold setS;rw[f,f,f,f,f]
 exact .inr ⟨b,off,rfl,by unfold setS;simpa [World.setCell] using k2,fun i hi=>(World.cell?_of_block (a:=⟨b,off+i,none⟩) e).trans (k3 i hi)⟩
noncomputable def dG2 {β:Type} (f:List Nat × Nat->Sg->Rs β) (a need:Nat) (l:List Nat) (σ6:Sg):Rs β:=if need<l.length\/l.getD 256 0=0 then .error 3 else f (l,a+257) σ6
noncomputable def dG1 {β:Type} (f:List Nat × Nat->Sg->Rs β) (a need:Nat) (m:Nat->Int) (σ4:Sg):Rs β:=Yc (fitM m 19 σ4) fun _ σ5=>Yc (YL (lens m) need (σ5.n+1) σ5 []) (dG2 f a need)
noncomputable def dF3 {β:Type} (f:List Nat × Nat->Sg->Rs β) (a b c:Nat) (σ3:Sg):Rs β:=if 286<a+257\/30<b+1 then .error 3 else Yc (Vy (ordL.take (c+4)) (fun _=>0) σ3) (dG1 f a (a+257+(b+1)))
noncomputable def dF2 {β:Type} (f:List Nat × Nat->Sg->Rs β) (a b:Nat) (σ2:Sg):Rs β:=Yc (Yy 4 σ2) (dF3 f a b)
noncomputable def dF1 {β:Type} (f:List Nat × Nat->Sg->Rs β) (a:Nat) (σ1:Sg):Rs β:=Yc (Yy 5 σ1) (dF2 f a)
theorem Yi2 {β:Type} (σ:Sg) (f:List Nat × Nat->Sg->Rs β):Yc (dynM σ) f=Yc (Yy 5 σ) (dF1 f):=by
 unfold dynM;rw[Yi]
 congr 1
 funext a σ1;unfold dF1;rw[Yi]
 congr 1
 funext b σ2;unfold dF2;rw[Yi]
 congr 1
 funext c σ3;unfold dF3;split
 . rfl
 rw[Yi]
 congr 1
 funext m σ4;unfold dG1;rw[Yi]
 congr 1
 funext u σ5;rw[Yi]
 congr 1
 funext l σ6;unfold dG2;split
 . rfl
 rfl
theorem URow.grown {w w1:World} {a:Option Addr} {n:Nat} {F:Nat->Nat} {row:Option Nat} (h:URow w a n F) (hg:w.grownBy w1 row) (hn:∀b off sp,a=some ⟨b,off,sp⟩->some b ≠ row):URow w1 a n F:=by
 rcases h with h|⟨b,off,rfl,h2,h3⟩
 . exact .inl h
 have hb:=hg.block b h2 (hn b off none rfl);exact .inr ⟨b,off,rfl,Qb h2 hg.size,fun i hi=>(World.cell?_of_block (a:=⟨b,off+i,none⟩) hb).trans (h3 i hi)⟩
def LTr {β:Type} (K:Nat->Nat) (need:Nat) (s:ByteArray) (RES:Rs β) (G:List Nat->Sg->Rs β) (p z e:Nat) (l:List Nat):Prop:=
 (e=0/\p<=8*s.size/\∃fu,8*s.size-p<fu/\Yc (YL K need fu (sg s p z) l) G=RES)\/(e ≠ 0/\RES=.error e)
noncomputable def lC {β:Type} (K:Nat->Nat) (need fu:Nat) (G:List Nat->Sg->Rs β) (l:List Nat) (σ1:Sg):Rs β:=Yc (YL K need fu σ1 l) G
noncomputable def lF1 {β:Type} (C:List Nat->Sg->Rs β) (l:List Nat) (s:Nat) (σ1:Sg):Rs β:=
 if s=16 then (if l=[] then .error 3 else Yc (Yy 2 σ1) fun b σ2=>C (l++List.replicate (3+b) (l.getLastD 0)) σ2)
 else if s=17 then Yc (Yy 3 σ1) fun b σ2=>C (l++List.replicate (3+b) 0) σ2
 else if s=18 then Yc (Yy 7 σ1) fun b σ2=>C (l++List.replicate (11+b) 0) σ2
 else C (l++[s]) σ1
theorem Yiz {β:Type} (K:Nat->Nat) (σ:Sg) (l:List Nat) (C:List Nat->Sg->Rs β):Yc (Vv K σ l) C=Yc (symM K 19 σ) (lF1 C l):=by
 unfold Vv;rw[Yi]
 congr 1
 funext s σ1;unfold lF1;split
 . split
   . rfl
   rw[Yi];rfl
 split
 . rw[Yi];rfl
 split
 . rw[Yi];rfl
 rfl
theorem LTr.step {β:Type} {K:Nat->Nat} {need:Nat} {s:ByteArray} {RES:Rs β} {G:List Nat->Sg->Rs β} {p z:Nat} {l:List Nat} (h:LTr K need s RES G p z 0 l) (hl:l.length<need) :
 p<=8*s.size/\∃fu,8*s.size-p<fu+1/\LR s RES p z 0 (fun σ=>Yc (symM K 19 σ) (lF1 (lC K need fu G) l)):=by
 rcases h with⟨_,h1,fu,h2,h3⟩|⟨h,_⟩
 . obtain⟨fu,rfl⟩:∃g,fu=g+1:=⟨fu-1,by omega⟩
   refine⟨h1,fu,h2,.inl ⟨rfl,h1,?_⟩⟩;rw[<-h3];show Yc (symM K 19 (sg s p z)) _=Yc (if l.length<need then Yc (Vv K (sg s p z) l) fun l' σ1=>YL K need fu σ1 l' else .ok (l,sg s p z)) G;rw[if_pos hl,<-Yiz,Yi];rfl
 exact absurd rfl h
theorem LTr.stop {β:Type} {K:Nat->Nat} {need:Nat} {s:ByteArray} {RES:Rs β} {G:List Nat->Sg->Rs β} {p z:Nat} {l:List Nat} (h:LTr K need s RES G p z 0 l) (hl:¬l.length<need):LR s RES p z 0 (G l):=by
 rcases h with⟨_,h1,fu,h2,h3⟩|⟨h,_⟩
 . obtain⟨fu,rfl⟩:∃g,fu=g+1:=⟨fu-1,by omega⟩
   refine .inl ⟨rfl,h1,?_⟩;rw[<-h3];show _=Yc (if l.length<need then Yc (Vv K (sg s p z) l) fun l' σ1=>YL K need fu σ1 l' else .ok (l,sg s p z)) G;rw[if_neg hl];rfl
 exact absurd rfl h
theorem LTr.next {β:Type} {K:Nat->Nat} {need:Nat} {s:ByteArray} {RES:Rs β} {G:List Nat->Sg->Rs β} {p p' z e' fu:Nat} {l:List Nat} (h:LR s RES p' z e' (lC K need fu G l)) (hf:8*s.size-p<fu+1) (hp:e'=0->p<p'):LTr K need s RES G p' z e' l:=by
 rcases h with⟨h0,h1,h2⟩|h
 . exact .inl ⟨h0,h1,fu,by have:=hp h0;omega,h2⟩
 exact .inr h
theorem U9 {fn:Func} {p u v:Tmp} {ty:TypeId} (h:fn.results=#[.cell p ty,.tmp u,.tmp v]) (tmps:Array Value) (P:Program) (w:World) :
 (results fn tmps).run P w =
  ((asAddr (tmps.getD p undef)).run P w).andThen fun a w₁=>((loadVar ty a).run P w₁).andThen fun x w₂=>.ok (.tuple #[x,tmps.getD u undef,tmps.getD v undef]) w₂:=by
 simp only[results,h];simp[Sem.run_bind,Result.andThen]
theorem K4 {fn:Func} {p u v:Tmp} (h:fn.results=#[.cell p 149,.tmp u,.tmp v]) {tmps:Array Value} {w:World} {g:Nat} {a:Option Addr} {n cap q z most e:Nat}
 (hp:tmps.getD p undef=.pointer (some ⟨g,0,none⟩)) (hg:Blk w g 149 (SnC a n cap q z most e)):(results fn tmps).run Tryz.prog w=.ok (.tuple #[SnV a n cap q z most e,tmps.getD u undef,tmps.getD v undef]) w:=by
 rw[U9 h tmps Tryz.prog w,hp];have h1:(asAddr (.pointer (some ⟨g,0,none⟩))).run Tryz.prog w=.ok ⟨g,0,none⟩ w:=rfl;rw[h1];show((loadVar _ _).run _ _).andThen _=_;rw[run_loadVar_row w g 149 _ (SnC a n cap q z most e) (0,0) _ hg Tryz.underlying149 rfl (by kernel_rfl)];rfl
def updM (m:Nat->Int) (s v:Nat) (i:Nat):Int:=if i=s then (v:Int) else m i
theorem YgD (m:Nat->Int) (s v:Nat):(Yg 19 (KG m)).setIfInBounds s (.int .i64 (v:Int))=Yg 19 (KG (updM m s v)):=by
 rw[YA];refine Ys _ _ _ fun i _=>?_;unfold KG updM;split<;>rfl
theorem Xd {P:Program} {id:Nat} {Q:Exit->Act->World->Prop} {a:Act} {w wz:World} {l:List Oper} (n:Nat) (hz:wz=w.drew) (hm:P.follows .mixedOrders=true) (hB:Region.lexTailB .any l.toArray n=true)
 (h:wpStill P l.toArray wz (fun a'=>wpList P l.toArray Q (l.drop n) a' wz) (l.take n) a):(Code.region id l.toArray true).wp P Q a w:=by
 subst hz;exact wp_region_still_tail n hm hB h
attribute [local irreducible] wpStill
def Jw {β:Type} (w:World) (ab n:Nat) (s:ByteArray) (p z most:Nat) (RES:Rs β) (f:List Nat × Nat->Sg->Rs β) (r:Ending) (w':World):Prop:=
 ∃(p' e':Nat) (l:List Nat) (n1:Nat) (x1 x2:Option Addr) (n2 y1 y2:Nat),
  r=.returned (.tuple #[SnV (some ⟨ab,0,none⟩) n n p' z most e',.slice x1 n1 y1,.slice x2 n2 y2])/\Hid (LR s RES p' z e' (f (l,n1)))/\p'<=200000/\p<=p'/\
   Hid (e'=0->IRow w' x1 n1 (lenF (l.take n1))/\IRow w' x2 n2 (lenF (l.drop n1))/\n1<=288/\n2<=32/\n1+n2=l.length/\(∀y ∈ l,y<=15)/\∀b off sp,(x1=some ⟨b,off,sp⟩\/x2=some ⟨b,off,sp⟩)->w.heap.size<=b)/\Below w.heap.size w w'
set_option maxHeartbeats 64000000 in
theorem YcL (ab:Nat) (s:ByteArray) (hs:s.size<=12500) (p z most e:Nat) (hp:p<=150000) (_hz:z<=200000) (_hmo:most<=100000) {β:Type} (RES:Rs β) (f:List Nat × Nat->Sg->Rs β) (hL:LR s RES p z e (fun σ=>Yc (dynM σ) f))
 (w:World) (hb:BRow w (some ⟨ab,0,none⟩) (8*s.size) (num s)) :
 Calls Tryz.prog 83 #[SnV (some ⟨ab,0,none⟩) (8*s.size) (8*s.size) p z most e] w (Jw w ab (8*s.size) s p z most RES f):=by
 have HBr:=Qf hb;have CW:=Qf (fun p z e c is W=>Uz (some ⟨ab,0,none⟩) (8*s.size) (8*s.size) p z most e c is W);have CN:=Qf (fun k (hk:k<=16) p2 z2 e2 (h2:p2<=1000000) (F:Nat->Sg->Rs β) W hL hW=>YbR (some ⟨ab,0,none⟩) (8*s.size) s (by omega) p2 z2 most e2 k hk h2 RES F hL W hW)
 have HL0:Hid (LR s RES p z e (fun σ=>Yc (Yy 5 σ) (dF1 f))):=by
  show LR _ _ _ _ _ _;have e:(fun σ=>Yc (dynM σ) f)=(fun σ=>Yc (Yy 5 σ) (dF1 f)):=by funext σ;exact Yi2 σ f
  rw[e] at hL;exact hL
 obtain⟨N,HN⟩:=Qi (8*s.size)
 have hNl:N<=100000:=by have:=HN.out;omega
 rw[HN.out] at CN CW HBr ⊢;clear hb hL;unfold SnV SnC at CN CW ⊢;have hBx:∀(A B:Array Value),Blk ((w.alloc (.cells A 149)).alloc (.cells B 149)) w.heap.size 149 A:=fun A B=>heap_alloc2_old w _ _;have hbb:∀(A B:Array Value),Below w.heap.size w ((w.alloc (.cells A 149)).alloc (.cells B 149)):=fun A B=>((Below.refl w.heap.size w).alloc (Qa _) _).alloc (by simp) _;have hBy:∀(A B:Array Value),Blk ((w.alloc (.cells A 149)).alloc (.cells B 149)) (w.heap.size+1) 149 B:=fun A B=>heap_alloc2_new w _ _;have HBx:=Qf hBx;have HBy:=Qf hBy;have Hbb:=Qf hbb;clear hBx hBy hbb;go_enter Tryz.func83,Tryz.ntmps83;go_wp2_with fail;have HS0:Hid (SAt w ((w.alloc (.cells #[.slice (some ⟨ab,0,none⟩) N N,.int .i64 (p:Int),.int .i64 (z:Int),.int .i64 (most:Int),.int .i64 (e:Int)] 149)).alloc (.cells #[.slice none 0 0,.int .i64 0,.int .i64 0,.int .i64 0,.int .i64 0] 149)) w.heap.size (some ⟨ab,0,none⟩) N N p z most e):=⟨HBx.out _ _,HBy.out _ _,Hbb.out _ _,Qa _⟩;obtain⟨w1,HW1⟩:=Qi ((w.alloc (.cells #[.slice (some ⟨ab,0,none⟩) N N,.int .i64 (p:Int),.int .i64 (z:Int),.int .i64 (most:Int),.int .i64 (e:Int)] 149)).alloc (.cells #[.slice none 0 0,.int .i64 0,.int .i64 0,.int .i64 0,.int .i64 0] 149));rw[HW1.out] at HS0 ⊢;obtain⟨B,HB⟩:=Qi (w.heap.size);have HSq:Hid (SAt w w1 B (some ⟨ab,0,none⟩) N N p z most e):=by show SAt _ _ _ _ _ _ _ _ _ _;rw[<-HB.out];exact HS0.out
 rw[HB.out];have hwB:w.heap.size<=B:=by rw[HB.out];exact Qa _
 clear HS0 HW1 HBx HBy Hbb;refine(CN.out 5 (by decide) p z e (by omega) (dF1 f) w1 HL0.out (HBr.out.below HSq.out.2.2.1 (Qa _))).mono ?_;rintro r wn1 ⟨p1,v1,e1,rfl,HL1,hv1,hp1,hp1',hz1,hb1⟩;have HSn1:=Qf (HSq.out.below hb1);clear HSq;obtain⟨c0,c1,c2,c3,c4,f0,f1,f2,f3,f4⟩:=HSn1.out.cells;clear hb1 hz1 HL0;go_upto_region 2 with(fail);change Code.wp _ _ _ _ (setS wn1 B (some ⟨ab,0,none⟩) N N p1 z most e1);have HSW1:=Qf (HSn1.out.set_ p1 z most e1);obtain⟨W1,HWW1⟩:=Qi (setS wn1 B (some ⟨ab,0,none⟩) N N p1 z most e1);rw[HWW1.out] at HSW1 ⊢;clear c0 c1 c2 c3 c4 f0 f1 f2 f3 f4;clear HSn1 HWW1;obtain⟨c0,c1,c2,c3,c4,f0,f1,f2,f3,f4⟩:=HSW1.out.cells;go_wp2_with fail;clear c0 c1 c2 c3 c4 f0 f1 f2 f3 f4;refine(CN.out 5 (by decide) p1 z e1 (by omega) (dF2 f v1) W1 HL1.out (HBr.out.below HSW1.out.2.2.1 (Qa _))).mono ?_;rintro r wn2 ⟨p2,v2,e2,rfl,HL2,hv2,hp2,hp2',hz2,hb2⟩;have HSn2:=Qf (HSW1.out.below hb2);clear HSW1;obtain⟨c0,c1,c2,c3,c4,f0,f1,f2,f3,f4⟩:=HSn2.out.cells;clear hb2 hz2 HL1;go_upto_region 3 with(fail);change Code.wp _ _ _ _ (setS wn2 B (some ⟨ab,0,none⟩) N N p2 z most e2);have HSW2:=Qf (HSn2.out.set_ p2 z most e2);obtain⟨W2,HWW2⟩:=Qi (setS wn2 B (some ⟨ab,0,none⟩) N N p2 z most e2);rw[HWW2.out] at HSW2 ⊢;clear c0 c1 c2 c3 c4 f0 f1 f2 f3 f4;clear HSn2 HWW2;obtain⟨c0,c1,c2,c3,c4,f0,f1,f2,f3,f4⟩:=HSW2.out.cells;go_wp2_with fail;clear c0 c1 c2 c3 c4 f0 f1 f2 f3 f4;refine(CN.out 4 (by decide) p2 z e2 (by omega) (dF3 f v1 v2) W2 HL2.out (HBr.out.below HSW2.out.2.2.1 (Qa _))).mono ?_;rintro r wn3 ⟨p3,v3,e3,rfl,HL3,hv3,hp3,hp3',hz3,hb3⟩;have HSn3:=Qf (HSW2.out.below hb3);clear HSW2;obtain⟨c0,c1,c2,c3,c4,f0,f1,f2,f3,f4⟩:=HSn3.out.cells;clear hb3 hz3 HL2;go_upto_region 4 with(fail);change Code.wp _ _ _ _ (setS wn3 B (some ⟨ab,0,none⟩) N N p3 z most e3);have HSW3:=Qf (HSn3.out.set_ p3 z most e3);obtain⟨W3,HWW3⟩:=Qi (setS wn3 B (some ⟨ab,0,none⟩) N N p3 z most e3);rw[HWW3.out] at HSW3 ⊢;clear c0 c1 c2 c3 c4 f0 f1 f2 f3 f4;clear HSn3 HWW3;have hv1b:v1<32:=hv1;have hv2b:v2<32:=hv2;have hv3b:v3<16:=hv3;clear hv1 hv2 hv3;obtain⟨e4,He4⟩:∃x:Nat,Hid ((if (29<v1\/29<v2) then Yu e3 3 else e3)=x):=⟨_,Qf (Eq.refl _)⟩
 have hmk:∀W,(Instr.makeSlice 113 (.int .i64 19) (.int .i64 19)).run Tryz.prog W=.ok (.slice (some ⟨W.heap.size,0,none⟩) 19 19) (W.alloc (.cells (Yg 19 (fun _=>.int .i64 0)) 3)):=
  fun W=>XC (t:=113) (e:=3) Tryz.underlying113 Y9 rfl 19 19 rfl (by omega) (by omega) W
 go_cut [] from 33 to 40 (fun wx=>Hid (SAt w wx B (some ⟨ab,0,none⟩) N N p3 z most e4))
 case first=>
  obtain⟨c0,c1,c2,c3,c4,f0,f1,f2,f3,f4⟩:=HSW3.out.cells
  have key:∀(D:Bool),(D=true ↔ (29<v1\/29<v2))->∀W,Calls Tryz.prog 84 #[.agg #[.slice (some ⟨ab,0,none⟩) N N,.int .i64 (p3:Int),.int .i64 (z:Int),.int .i64 (most:Int),.int .i64 (e3:Int)],.bool D,.int .i64 3] W fun r w'=>r=.returned (.agg #[.slice (some ⟨ab,0,none⟩) N N,.int .i64 (p3:Int),.int .i64 (z:Int),.int .i64 (most:Int),.int .i64 (e4:Int)])/\Below W.heap.size W w':=fun D hD W=>by
   have h:=CW.out p3 z e3 3 D W
   have e:(if D=true then Yu e3 3 else e3)=e4:=by
    rw[<-He4.out];by_cases hd:D=true
    . rw[if_pos hd,if_pos (hD.1 hd)]
    rw[if_neg hd,if_neg (fun x=>hd (hD.2 x))]
   rw[e] at h;exact h
  have Key:=Qf key;clear key;by_cases ha:29<v1
  . have d1:decide ((29:Int)<(v1:Int))=true:=Qg (by omega)
    have d1b:decide (29<v1)=true:=(by rw[decide_eq_true_eq];exact ha);have C:=Qf (Key.out true ⟨fun _=>.inl ha,fun _=>rfl⟩ W3);go_wp2_with fail;refine C.out.mono ?_;rintro r w2 ⟨rfl,hb2⟩;have HS2:=Qf (HSW3.out.below hb2);obtain⟨k0,k1,k2,k3,k4,h0,h1,h2,h3,h4⟩:=HS2.out.cells;go_wp2_with fail;go_meet;exact Qf (HS2.out.set_ p3 z most e4)
  have d1:decide ((29:Int)<(v1:Int))=false:=Qh (by omega);have d1b:decide (29<v1)=false:=by rw[decide_eq_false_iff_not];exact ha
  obtain⟨D,HD⟩:∃D:Bool,Hid (decide ((29:Int)<(v2:Int))=D):=⟨_,Qf (Eq.refl _)⟩;have hD:=HD.out;have hDb:decide (29<v2)=D:=by rw[<-hD,decide_eq_decide];omega
  have C:=Qf (Key.out D (by rw[<-hDb,decide_eq_true_eq];exact⟨fun h=>.inr h,fun h=>h.resolve_left ha⟩) W3);go_wp2_with fail;refine C.out.mono ?_;rintro r w2 ⟨rfl,hb2⟩;have HS2:=Qf (HSW3.out.below hb2);obtain⟨k0,k1,k2,k3,k4,h0,h1,h2,h3,h4⟩:=HS2.out.cells;go_wp2_with fail;go_meet;exact Qf (HS2.out.set_ p3 z most e4)
 case rest=>
 have HS4:Hid (SAt w wc B (some ⟨ab,0,none⟩) N N p3 z most e4):=hcut;obtain⟨w4,Hw4⟩:=Qi (wc);rw[Hw4.out] at HS4 ⊢;obtain⟨need,Hneed⟩:=Qi (v1+257+(v2+1));obtain⟨cn,Hcn⟩:=Qi (v3+4)
 have hcn:cn<=19:=by have:=Hcn.out;omega
 have hcnI:(v3:Int)+4=(cn:Int):=by have:=Hcn.out;omega
 have HL4:Hid (LR s RES p3 z e4 (fun σ=>Yc (Vy ((ordL.take cn).drop 0) (fun _=>0) σ) (dG1 f v1 need))):=by
  show LR _ _ _ _ _ _;have h:LR s RES p3 z e3 (fun σ=>if 286<v1+257\/30<v2+1 then .error 3 else Yc (Vy (ordL.take (v3+4)) (fun _=>0) σ) (dG1 f v1 (v1+257+(v2+1)))):=HL3.out;rw[Hneed.out,Hcn.out] at h;rw[List.drop_zero,<-He4.out];by_cases hc:29<v1\/29<v2
  . rw[if_pos hc]
    exact h.stop (by omega) (by decide)
  rw[if_neg hc];exact h.pass (by omega)
 clear hcut Hw4 HSW3 HL3 He4;have hsz4:=HS4.out.2.1.lt;obtain⟨FB,HFB⟩:=Qi (w4.heap.size)
 have hFB:B+1<FB:=by have:=HFB.out;omega
 have HS5:=Qf ((HS4.out.alloc (.cells (Yg 19 (fun _=>.int .i64 0)) 3)).alloc (.cells #[.int .i64 16,.int .i64 17,.int .i64 18,.int .i64 0,.int .i64 8,.int .i64 7,.int .i64 9,.int .i64 6,.int .i64 10,.int .i64 5,.int .i64 11,.int .i64 4,.int .i64 12,.int .i64 3,.int .i64 13,.int .i64 2,.int .i64 14,.int .i64 1,.int .i64 15] 3))
 have HF5:Hid (Blk ((w4.alloc (.cells (Yg 19 (fun _=>.int .i64 0)) 3)).alloc (.cells #[.int .i64 16,.int .i64 17,.int .i64 18,.int .i64 0,.int .i64 8,.int .i64 7,.int .i64 9,.int .i64 6,.int .i64 10,.int .i64 5,.int .i64 11,.int .i64 4,.int .i64 12,.int .i64 3,.int .i64 13,.int .i64 2,.int .i64 14,.int .i64 1,.int .i64 15] 3)) FB 3 (Yg 19 (KG fun _=>0))):=by
  have h:=(Blk.new w4 3 (Yg 19 (fun _=>.int .i64 0))).alloc (.cells #[.int .i64 16,.int .i64 17,.int .i64 18,.int .i64 0,.int .i64 8,.int .i64 7,.int .i64 9,.int .i64 6,.int .i64 10,.int .i64 5,.int .i64 11,.int .i64 4,.int .i64 12,.int .i64 3,.int .i64 13,.int .i64 2,.int .i64 14,.int .i64 1,.int .i64 15] 3);rw[HFB.out] at h;exact h
 have HR5:Hid (Blk ((w4.alloc (.cells (Yg 19 (fun _=>.int .i64 0)) 3)).alloc (.cells #[.int .i64 16,.int .i64 17,.int .i64 18,.int .i64 0,.int .i64 8,.int .i64 7,.int .i64 9,.int .i64 6,.int .i64 10,.int .i64 5,.int .i64 11,.int .i64 4,.int .i64 12,.int .i64 3,.int .i64 13,.int .i64 2,.int .i64 14,.int .i64 1,.int .i64 15] 3)) (FB+1) 3 #[.int .i64 16,.int .i64 17,.int .i64 18,.int .i64 0,.int .i64 8,.int .i64 7,.int .i64 9,.int .i64 6,.int .i64 10,.int .i64 5,.int .i64 11,.int .i64 4,.int .i64 12,.int .i64 3,.int .i64 13,.int .i64 2,.int .i64 14,.int .i64 1,.int .i64 15]):=by
  have h:=Blk.new (w4.alloc (.cells (Yg 19 (fun _=>.int .i64 0)) 3)) 3 #[.int .i64 16,.int .i64 17,.int .i64 18,.int .i64 0,.int .i64 8,.int .i64 7,.int .i64 9,.int .i64 6,.int .i64 10,.int .i64 5,.int .i64 11,.int .i64 4,.int .i64 12,.int .i64 3,.int .i64 13,.int .i64 2,.int .i64 14,.int .i64 1,.int .i64 15];rw[Vm,HFB.out] at h;exact h
 go_wp2_with fail;rw[HFB.out];obtain⟨w5,HW5⟩:=Qi ((w4.alloc (.cells (Yg 19 (fun _=>.int .i64 0)) 3)).alloc (.cells #[.int .i64 16,.int .i64 17,.int .i64 18,.int .i64 0,.int .i64 8,.int .i64 7,.int .i64 9,.int .i64 6,.int .i64 10,.int .i64 5,.int .i64 11,.int .i64 4,.int .i64 12,.int .i64 3,.int .i64 13,.int .i64 2,.int .i64 14,.int .i64 1,.int .i64 15] 3));rw[HW5.out] at HS5 HF5 HR5 ⊢;obtain⟨OB,HOB⟩:=Qi (FB+1);rw[HOB.out] at HR5 ⊢
 have hOB:B+1<OB/\OB ≠ FB:=by have:=HOB.out;omega
 clear HW5 hmk HS4 hsz4;have hp3l:p<=p3/\p3<=150014:=by omega
 obtain⟨q0,Hq0⟩:=Qi (p)
 have hq03:q0<=p3:=by have:=Hq0.out;omega
 obtain⟨ocs,Hocs⟩:=Qi ((#[.int .i64 16,.int .i64 17,.int .i64 18,.int .i64 0,.int .i64 8,.int .i64 7,.int .i64 9,.int .i64 6,.int .i64 10,.int .i64 5,.int .i64 11,.int .i64 4,.int .i64 12,.int .i64 3,.int .i64 13,.int .i64 2,.int .i64 14,.int .i64 1,.int .i64 15]:Array Value));rw[Hocs.out] at HR5;clear hp1 hp1' hp2 hp2' hp3 hp3'
 go_loopw [44] (fun i_ wr=>∃(i p e:Nat) (m:Nat->Int),i<=19/\i_=.int .i64 (i:Int)/\q0<=p/\p<=150014+3*i/\Hid (∀j,0<=m j/\m j<=7)/\Hid (LR s RES p z e (fun σ=>Yc (Vy ((ordL.take cn).drop i) m σ) (dG1 f v1 need)))/\Hid (SAt w wr B (some ⟨ab,0,none⟩) N N p z most e)/\Hid (Blk wr FB 3 (Yg 19 (KG m)))/\Hid (Blk wr OB 3 ocs)) (fun i_ _=>19-(intOf i_).toNat)
 case atStart=>exact⟨0,p3,e4,fun _=>0,by omega,rfl,hq03,by omega,Qf (fun _=>⟨Int.le_refl 0,(by decide:(0:Int)<=7)⟩),HL4,HS5,HF5,HR5⟩
 clear HL4 HS5 HF5 HR5 hq03 hp3l;obtain⟨i,p,e,m,hi,rfl,hqp,hpi,Hm,HL,HSr,HFr,HRr⟩:=hrel;by_cases hlt:i<19
 . have d1:decide ((i:Int)<19)=true:=Qg (by omega)
   have hiI:(i:Int)<19:=by omega
   obtain⟨si,Hsi⟩:=Qi (ordL.getD i 0);have hsi:si<19:=by rw[<-Hsi.out];exact Ylj i hlt
   have o0:wr.cell? ⟨OB,i,none⟩=some (.int .i64 (si:Int)):=by
    rw[HRr.out.cell i,<-Hocs.out,YcV i hlt,Hsi.out]
   have hOl:=HRr.out.lt;by_cases hc:i<cn
   . have d2:decide ((i:Int)<(cn:Int))=true:=Qg (by omega)
     have d2b:decide (i<cn)=true:=by rw[decide_eq_true_eq];exact hc
     have HLb:Hid (LR s RES p z e (fun σ=>Yc (Yy 3 σ) fun v σ1=>Yc (Vy ((ordL.take cn).drop (i+1)) (updM m si v) σ1) (dG1 f v1 need))):=by
      show LR _ _ _ _ _ _;have h:=HL.out;rw[YeS cn i hc hcn,Hsi.out] at h
      have e:(fun σ=>Yc (Vy (si::(ordL.take cn).drop (i+1)) m σ) (dG1 f v1 need))=(fun σ=>Yc (Yy 3 σ) fun v σ1=>Yc (Vy ((ordL.take cn).drop (i+1)) (updM m si v) σ1) (dG1 f v1 need)):=by
       funext σ;show Yc (Yc _ _) _=_;rw[Yi];rfl
      rw[e] at h;exact h
     clear HL;obtain⟨c0,c1,c2,c3,c4,f0,f1,f2,f3,f4⟩:=HSr.out.cells;go_wp2_with fail;clear c0 c1 c2 c3 c4 f0 f1 f2 f3 f4;refine(CN.out 3 (by decide) p z e (by omega) (_) wr HLb.out (HBr.out.below HSr.out.2.2.1 (Qa _))).mono ?_;rintro r wn7 ⟨p7,v7,e7,rfl,HL7,hv7,hp7,hp7',hz7,hb7⟩;have HSn7:=Qf (HSr.out.below hb7);have HFn7:=Qf (HFr.out.below hb7 HFr.out.lt);have HRn7:=Qf (HRr.out.below hb7 HRr.out.lt);clear HSr HFr HRr;obtain⟨c0,c1,c2,c3,c4,f0,f1,f2,f3,f4⟩:=HSn7.out.cells;clear hb7 hz7 HLb;go_upto_region 12 with(fail);change Code.wp _ _ _ _ (setS wn7 B (some ⟨ab,0,none⟩) N N p7 z most e7);have HSW7:=Qf (HSn7.out.set_ p7 z most e7);obtain⟨W7,HWW7⟩:=Qi (setS wn7 B (some ⟨ab,0,none⟩) N N p7 z most e7);rw[HWW7.out] at HSW7 ⊢;have HFW7:=Qf (YX (a:=(some ⟨ab,0,none⟩)) (n:=N) (cap:=N) (p:=p7) (z:=z) (most:=most) (e:=e7) HFn7.out (show FB ≠ B by omega));have HRW7:=Qf (YX (a:=(some ⟨ab,0,none⟩)) (n:=N) (cap:=N) (p:=p7) (z:=z) (most:=most) (e:=e7) HRn7.out (show OB ≠ B by omega));rw[HWW7.out] at HFW7 HRW7;clear c0 c1 c2 c3 c4 f0 f1 f2 f3 f4;clear HSn7 HFn7 HRn7 HWW7;have hv7b:v7<8:=hv7;have hfc:=HFW7.out.cell si;rw[Yp _ _ _ hsi] at hfc;have hff:=HFW7.out.frozen si;have hsiI:(si:Int)<19:=(by omega);have HS8:=Qf (HSW7.out.far (g:=FB) hFB si (.int .i64 (v7:Int)))
     have HF8:Hid (Blk (W7.setCell ⟨FB,si,none⟩ (.int .i64 (v7:Int))) FB 3 (Yg 19 (KG (updM m si v7)))):=by
      have h:=HFW7.out.set_ si (.int .i64 (v7:Int));rw[YgD] at h;exact h
     have HR8:=Qf (HRW7.out.far (p:=⟨FB,si,none⟩) hOB.2 (.int .i64 (v7:Int)))
     have Hm8:Hid (∀j,0<=updM m si v7 j/\updM m si v7 j<=7):=Qf (fun j=>by
      unfold updM;split
      . omega
      exact Hm.out j)
     have HL8:Hid (LR s RES p7 z e7 (fun σ=>Yc (Vy ((ordL.take cn).drop (i+1)) (updM m si v7) σ) (dG1 f v1 need))):=HL7;have hq7:q0<=p7/\p7<=150014+3*(i+1):=(by omega);clear HL7 hp7 hp7' hv7 hv7b HSW7 HFW7 HRW7;go_wp2_with fail;go_roundw
     case rel=>exact⟨i+1,p7,e7,updM m si v7,by omega,by go_num,hq7.1,hq7.2,Hm8,HL8,HS8,HF8,HR8⟩
     simp[intOf];omega
   have d2:decide ((i:Int)<(cn:Int))=false:=Qh (by omega);have d2b:decide (i<cn)=false:=by rw[decide_eq_false_iff_not];exact hc
   have HLb:Hid (LR s RES p z e (fun σ=>Yc (Vy ((ordL.take cn).drop (i+1)) m σ) (dG1 f v1 need))):=by
    have h:=HL.out;have hl:(ordL.take cn).length<=i:=(by rw[List.length_take];omega);rw[List.drop_of_length_le hl] at h;show LR _ _ _ _ _ _;rw[List.drop_of_length_le (Nat.le_succ_of_le hl)];exact h
   clear HL;go_wp2_with fail;go_roundw
   case rel=>exact⟨i+1,p,e,m,by omega,by go_num,hqp,by omega,Hm,HLb,HSr,HFr,HRr⟩
   simp[intOf];omega
 have h19:i=19:=by omega
 subst h19;have d1:decide ((19:Int)<19)=false:=by decide
 obtain⟨kk,hkk⟩:=Yd0 19 m;have hkk':=YiE hkk (by decide) (fun j _=>⟨(Hm.out j).1,by have:=(Hm.out j).2;omega⟩);obtain⟨D6,HD6⟩:∃D:Bool,Hid (((kk:Int)!=0)=D):=⟨_,Qf (Eq.refl _)⟩;have hD6:=HD6.out;obtain⟨e6,He6⟩:∃x:Nat,Hid ((if D6 then Yu e 3 else e)=x):=⟨_,Qf (Eq.refl _)⟩;have C6:=fun W=>CW.out p z e 3 D6 W;rw[He6.out] at C6;have HC6:=Qf C6
 have HL6:Hid (LR s RES p z e6 (fun σ5=>Yc (YL (lens m) need (σ5.n+1) σ5 []) (dG2 f v1 need))):=by
  show LR _ _ _ _ _ _
  have h:LR s RES p z e (fun σ4=>Yc (fitM m 19 σ4) fun _ σ5=>Yc (YL (lens m) need (σ5.n+1) σ5 []) (dG2 f v1 need)):=by
   have h0:=HL.out;have hl:(ordL.take cn).length<=19:=by rw[List.length_take];exact Qe (Nat.min_le_left _ _) hcn
   rw[List.drop_of_length_le hl] at h0;exact h0
  have h2:=h.check (D:=D6) (by decide) (by
   rw[<-hD6];rcases hkk' with⟨h1,h2⟩|⟨h1,h2⟩
   . subst h1;exact⟨fun h=>by simp at h,fun h=>absurd h2 h⟩
   subst h1;exact⟨fun _=>h2,fun _=>by decide⟩)
  rw[He6.out] at h2;exact h2
 have CF:=Qf (fun W hW=>Yd9 (some ⟨FB,0,none⟩) 19 19 m (by decide) kk hkk W hW);have hqe:q0<=p/\p<=150100:=by omega
 clear C6 hkk' HL He6 hqp hpi hlt hi;go_wp2_with fail
 go_cut [] from 63 to 67 (fun wx=>Hid (SAt w wx B (some ⟨ab,0,none⟩) N N p z most e6)/\Hid (Blk wx FB 3 (Yg 19 (KG m))))
 case first=>
  have HSd:=Qf HSr.out.drew;obtain⟨c0,c1,c2,c3,c4,f0,f1,f2,f3,f4⟩:=HSr.out.cells;have hIl:IRow wr.drew (some ⟨FB,0,none⟩) 19 m:=KD (HFr.out.drew) (fun i hi=>by rw[Yp _ _ _ hi];rfl)
  go_region_with (first
   |(go_at_call 104;refine(CF.out _ hIl).mono ?_;rintro r w2 ⟨rfl,hw2⟩;subst hw2)
   |(go_at_call 84;refine(HC6.out _).mono ?_;rintro r w2 ⟨rfl,hb2⟩;have HS2:=Qf (HSd.out.below hb2);obtain⟨k0,k1,k2,k3,k4,h0,h1,h2,h3,h4⟩:=HS2.out.cells))
  all_goals
   go_wp2_with fail;go_meet;exact⟨Qf (HS2.out.set_ p z most e6),Qf (YX (HFr.out.drew.below hb2 HFr.out.lt) (show FB ≠ B by omega))⟩
 case rest=>
 obtain⟨HS7,HF7⟩:=hcut;clear HSr HFr HRr hD6 HD6 HC6 CF;go_upto_region 16 with(fail);obtain⟨LB,HLB⟩:=Qi (wc.heap.size);have hlB7:=HS7.out.2.1.lt;have hlF7:=HF7.out.lt
 have hLB:B+1<LB/\FB<LB:=by have:=HLB.out;omega
 have HS8:=Qf (HS7.out.alloc (.cells #[] 3));have HF8:=Qf (HF7.out.alloc (.cells #[] 3))
 have HO8:Hid (OwnN (wc.alloc (.cells #[] 3)) LB (.slice (some ⟨LB,0,none⟩) 0 0) []):=by
  have:=Blk.new wc 3 #[];rw[HLB.out] at this;exact Kv (cur:=#[]) this (Qa _) (Qa _) (Nat.zero_le _) rfl rfl
 rw[HLB.out];obtain⟨w8,HW8⟩:=Qi (wc.alloc (.cells #[] 3));rw[HW8.out] at HS8 HF8 HO8 ⊢;have hs8:w8.heap.size=LB+1:=by rw[<-HW8.out,<-HLB.out];simp
 clear HW8 HS7 HF7 hlB7 hlF7;obtain⟨c0,c1,c2,c3,c4,f0,f1,f2,f3,f4⟩:=HS8.out.cells;by_cases he6:e6=0
 . subst he6
   have CTb:=Qf (fun W hW=>J5 (some ⟨FB,0,none⟩) 19 19 m (by decide) (fun j hj=>⟨(Hm.out j).1,by have:=(Hm.out j).2;omega⟩) W hW);have CY:=Qf (fun au capu p2 z2 e2 (h2:p2<=900000) (F:Nat->Sg->Rs β) W hL hW hI hU=>YbP (some ⟨FB,0,none⟩) 19 19 m (by decide) (fun j hj=>⟨(Hm.out j).1,by have:=(Hm.out j).2;omega⟩) au capu (some ⟨ab,0,none⟩) (8*s.size) s (by omega) p2 z2 most e2 h2 RES F hL W hW hI hU);rw[HN.out] at CY;unfold SnV SnC at CY;obtain⟨K,HK⟩:=Qi (lens m);obtain⟨FK,HFK⟩:=Qi (YD (lens m) 19);rw[HFK.out] at CTb CY;rw[HK.out] at CY HL6;go_wp2_with fail;clear c0 c1 c2 c3 c4 f0 f1 f2 f3 f4;refine(CTb.out w8 (KD HF8.out (fun i hi=>by rw[Yp _ _ _ hi];rfl))).mono ?_;rintro r w9 ⟨v9,rfl,hU9,hb9⟩;obtain⟨au,cu,rfl,hUr,hau⟩:=Ydu hU9;have HS9:=Qf (HS8.out.below hb9);have HF9:=Qf (HF8.out.below hb9 HF8.out.lt);have HO9:=Qf (YP HO8.out hb9 (Qa _));have HU9:=Qf hUr;have Hau:Hid (∀b off sp,au=some ⟨b,off,sp⟩->LB<b/\b<w9.heap.size):=Qf (fun b off sp h=>by have:=hau b off sp h;omega);have HauB:Hid (∀b off sp,au=some ⟨b,off,sp⟩->b ≠ B):=Qf (fun b off sp h=>by have:=Hau.out b off sp h;omega)
   have hLB9:LB<w9.heap.size:=by have:=hb9.size;omega
   clear hb9 hUr hU9 hau HS8 HF8 HO8 CTb hs8
   have HT0:Hid (LTr K need s RES (dG2 f v1 need) p z 0 []):=by
    rcases HL6.out with⟨_,h1,h2⟩|⟨h0,_⟩
    . exact .inl ⟨rfl,h1,_,Nat.lt_succ_self _,h2⟩
    exact absurd rfl h0
   have HV0:Hid (∀g,(Value.slice (some ⟨LB,0,none⟩) 0 0).ownBlock=some g->g=LB\/w9.heap.size<=g):=fun g h=>by injection h with h;exact .inl h.symm
   have hpN0:p<=N:=by have:=HL6.out.ok.1;have:=HN.out;omega
   have hneed:need<=320:=by have:=Hneed.out;omega
   have hnI:(v1:Int)+(v2:Int)+258=(need:Int):=by have:=Hneed.out;omega
   clear HL6;go_wp2_with fail
   go_loopw [12] (fun v_ wr=>∃(p e:Nat) (l:List Nat),q0<=p/\p<=N+40/\(e=0->p<=N)/\l.length<=480/\Hid (e=0->∀y ∈ l,y<=15)/\Hid (LTr K need s RES (dG2 f v1 need) p z e l)/\Hid (SAt w wr B (some ⟨ab,0,none⟩) N N p z most e)/\Hid (Blk wr FB 3 (Yg 19 (KG m)))/\Hid (OwnN wr LB v_ l)/\Hid (∀g,v_.ownBlock=some g->g=LB\/w9.heap.size<=g)/\Hid (URow wr au 19 FK)/\w9.heap.size<=wr.heap.size)
    (fun _ wr=>if Ym wr ⟨B,4,none⟩=0 then N+1-Ym wr ⟨B,1,none⟩ else 0)
   case atStart=>exact⟨p,0,[],hqe.1,by omega,(fun _=>hpN0),Nat.zero_le _,Qf (fun _ y hy=>by cases hy),HT0,HS9,HF9,HO9,HV0,HU9,Qa _⟩
   clear HT0 HS9 HF9 HO9 HV0 HU9 hpN0 hqe;obtain⟨p,e,l,hqp,hpN,hpe,hll,H15,HT,HSr,HFr,HOr,HVr,HUr,hsr⟩:=hrel;obtain⟨va,vc,Hvv⟩:=HOr.out.form;have hvv:=Hvv.out;subst hvv;obtain⟨c0,c1,c2,c3,c4,f0,f1,f2,f3,f4⟩:=HSr.out.cells;have cm4:Ym wr ⟨B,4,none⟩=e:=Yf c4;have cm1:Ym wr ⟨B,1,none⟩=p:=Yf c1;have Hcm4:=Qf cm4;have Hcm1:=Qf cm1;clear cm4 cm1;obtain⟨ll,Hll⟩:=Qi (l.length);rw[Hll.out] at hll HVr HOr ⊢;by_cases he:e=0
   . subst he
     by_cases hlt:ll<need
     . have dl:decide ((ll:Int)<(need:Int))=true:=Qg (by omega)
       have dlb:decide (ll<need)=true:=(by rw[decide_eq_true_eq];exact hlt);obtain⟨hp8,fu,hfu,hLs⟩:=HT.out.step (by rw[Hll.out];exact hlt);have Hfu:=Qf hfu;have HLs:=Qf hLs;clear hfu hLs HT;go_wp2_with fail;clear c0 c1 c2 c3 c4 f0 f1 f2 f3 f4;refine(CY.out au cu p z 0 (by omega) _ wr HLs.out (HBr.out.below HSr.out.2.2.1 (Qa _)) (KD HFr.out (fun i hi=>by rw[Yp _ _ _ hi];rfl)) HUr.out).mono ?_;rintro r wa ⟨pa,sy,ea,rfl,HLa,hpa,hza,hpa',hva,hba⟩;have HSa:=Qf (HSr.out.below hba);have HFa:=Qf (HFr.out.below hba HFr.out.lt);have HOa:=Qf (YP HOr.out hba (Qa _));have HUa:=Qf (HUr.out.below2 hba);clear HSr HFr HOr HUr;obtain⟨c0,c1,c2,c3,c4,f0,f1,f2,f3,f4⟩:=HSa.out.cells;have Hza:Hid (ea=0->p<pa/\pa<=N/\sy<19):=Qf (fun h=>by have:=hza h;have:=HN.out;omega);have hsa:w9.heap.size<=wa.heap.size:=Qe hsr hba.size;clear hza hva hba HLs hsr;go_upto_region 22 with(fail);change Code.wp _ _ _ _ (setS wa B (some ⟨ab,0,none⟩) N N pa z most ea);have HSWa:=Qf (HSa.out.set_ pa z most ea);obtain⟨Wa,HWWa⟩:=Qi (setS wa B (some ⟨ab,0,none⟩) N N pa z most ea);rw[HWWa.out] at HSWa ⊢;have HFWa:=Qf (YX (a:=(some ⟨ab,0,none⟩)) (n:=N) (cap:=N) (p:=pa) (z:=z) (most:=most) (e:=ea) HFa.out (show FB ≠ B by omega));have HOWa:=Qf (VM (a:=(some ⟨ab,0,none⟩)) (n:=N) (cap:=N) (p:=pa) (z:=z) (most:=most) (e:=ea) HOa.out (show B<LB by omega));have HUWa:=Qf (XF (a:=(some ⟨ab,0,none⟩)) (n:=N) (cap:=N) (p:=pa) (z:=z) (most:=most) (e:=ea) HUa.out HauB.out);rw[HWWa.out] at HFWa HOWa HUWa
       have HsW:Hid (wa.heap.size=Wa.heap.size):=by show _=_;rw[<-HWWa.out];unfold setS;simp[World.setCell]
       clear c0 c1 c2 c3 c4 f0 f1 f2 f3 f4;clear HSa HFa HOa HUa HWWa;have hsW:w9.heap.size<=Wa.heap.size:=by rw[<-HsW.out];exact hsa
       go_upto_block 4 with(fail)
       have hsI:∀q:Nat,sy ≠ q->((sy:Int)==(q:Int))=false:=fun q h=>by simp;omega
       go_cut [15,16,17] from 75 to 144 (fun m_ k_ y_ wx=>∃(p' e' k y:Nat),k_=.int .i64 (k:Int)/\y_=.int .i64 (y:Int)/\k<=138/\pa<=p'/\p'<=pa+7/\Hid (e'=0->ea=0/\y<=15)/\Hid (LR s RES p' z e' (lC K need fu (dG2 f v1 need) (l++List.replicate k y)))/\Hid (SAt w wx B (some ⟨ab,0,none⟩) N N p' z most e')/\Hid (Blk wx FB 3 (Yg 19 (KG m)))/\Hid (OwnN wx LB (.slice va ll vc) l)/\Hid (URow wx au 19 FK)/\w9.heap.size<=wx.heap.size)
       case first=>
        have H0:True:=trivial;by_cases h16:sy=16
        . subst h16
          by_cases hl0:ll=0
          . have d0:((ll:Int)==0)=true:=by simp;omega
            have d0b:(ll==0)=true:=(by simp;omega);have d1:decide (0<(ll:Int))=false:=Qh (by omega);have d1b:decide (0<ll)=false:=Qh (by omega);obtain⟨ew,Hew⟩:∃x:Nat,Hid ((if true then Yu ea 3 else ea)=x):=⟨_,Qf (Eq.refl _)⟩;have C:=CW.out pa z ea 3 true Wa;rw[Hew.out] at C;have HC:=Qf C;have hl0':l=[]:=List.eq_nil_of_length_eq_zero (by rw[Hll.out];omega)
            have hew0:ew ≠ 0:=by
             rw[<-Hew.out,if_pos rfl];unfold Yu;split<;>omega
            have HLb:Hid (LR s RES pa z ew (fun σ=>Yc (Yy 2 σ) fun b σ2=>lC K need fu (dG2 f v1 need) (l++List.replicate (3+b) 16) σ2)):=by
             show LR _ _ _ _ _ _;rw[<-Hew.out,if_pos rfl];have h:LR s RES pa z ea (fun σ=>if l=[] then .error 3 else Yc (Yy 2 σ) fun b σ2=>lC K need fu (dG2 f v1 need) (l++List.replicate (3+b) (l.getLastD 0)) σ2):=HLa.out.congr (by unfold lF1;rw[if_pos rfl]);exact h.stop hl0' (by decide)
            clear hl0' hl0
            have Hea:Hid (ew=0->ea=0):=Qf (fun h0=>by
             have h:=Hew.out
             first
              |(rw[if_neg (by decide)] at h;omega)
              |exact absurd h0 hew0)
            clear HLa Hew C;obtain⟨c0,c1,c2,c3,c4,f0,f1,f2,f3,f4⟩:=HSWa.out.cells;go_wp2_with fail;refine(HC.out).mono ?_;rintro r ww ⟨rfl,hbw⟩;have hsw:w9.heap.size<=ww.heap.size:=Qe hsW hbw.size;have HSw:=Qf (HSWa.out.below hbw);have HFw:=Qf (HFWa.out.below hbw HFWa.out.lt);have HOw:=Qf (YP HOWa.out hbw (Qa _));have HUw:=Qf (HUWa.out.below2 hbw);clear HSWa HFWa HOWa HUWa;clear c0 c1 c2 c3 c4 f0 f1 f2 f3 f4;obtain⟨c0,c1,c2,c3,c4,f0,f1,f2,f3,f4⟩:=HSw.out.cells;clear hbw HC;go_upto_region 26 with(fail);change Code.wp _ _ _ _ (setS ww B (some ⟨ab,0,none⟩) N N pa z most ew);have HSWw:=Qf (HSw.out.set_ pa z most ew);obtain⟨Ww,HWWw⟩:=Qi (setS ww B (some ⟨ab,0,none⟩) N N pa z most ew);rw[HWWw.out] at HSWw ⊢;have HFWw:=Qf (YX (a:=(some ⟨ab,0,none⟩)) (n:=N) (cap:=N) (p:=pa) (z:=z) (most:=most) (e:=ew) HFw.out (show FB ≠ B by omega));have HOWw:=Qf (VM (a:=(some ⟨ab,0,none⟩)) (n:=N) (cap:=N) (p:=pa) (z:=z) (most:=most) (e:=ew) HOw.out (show B<LB by omega));have HUWw:=Qf (XF (a:=(some ⟨ab,0,none⟩)) (n:=N) (cap:=N) (p:=pa) (z:=z) (most:=most) (e:=ew) HUw.out HauB.out);rw[HWWw.out] at HFWw HOWw HUWw;have hsWw:w9.heap.size<=Ww.heap.size:=(by rw[show Ww.heap.size=ww.heap.size by rw[<-HWWw.out];unfold setS;simp[World.setCell]];exact hsw);clear c0 c1 c2 c3 c4 f0 f1 f2 f3 f4;clear HSw HFw HOw HUw HWWw;obtain⟨c0,c1,c2,c3,c4,f0,f1,f2,f3,f4⟩:=HSWw.out.cells;go_wp2_with fail;clear c0 c1 c2 c3 c4 f0 f1 f2 f3 f4;refine(CN.out 2 (by decide) pa z ew (by omega) (_) Ww HLb.out (HBr.out.below HSWw.out.2.2.1 (Qa _))).mono ?_;rintro r wnx ⟨px,vx,ex,rfl,HLx,hvx,hpx,hpx',hzx,hbx⟩;have HSnx:=Qf (HSWw.out.below hbx);have HFnx:=Qf (HFWw.out.below hbx HFWw.out.lt);have HOnx:=Qf (YP HOWw.out hbx (Qa _));have HUnx:=Qf (HUWw.out.below2 hbx);clear HSWw HFWw HOWw HUWw;obtain⟨c0,c1,c2,c3,c4,f0,f1,f2,f3,f4⟩:=HSnx.out.cells;have EX0:ex=0->ew=0:=hzx.2;have hsx:w9.heap.size<=wnx.heap.size:=Qe hsWw hbx.size;clear hbx hzx HLb;go_upto_region 27 with(fail);change Code.wp _ _ _ _ (setS wnx B (some ⟨ab,0,none⟩) N N px z most ex);have HSWx:=Qf (HSnx.out.set_ px z most ex);obtain⟨Wx,HWWx⟩:=Qi (setS wnx B (some ⟨ab,0,none⟩) N N px z most ex);rw[HWWx.out] at HSWx ⊢;have HFWx:=Qf (YX (a:=(some ⟨ab,0,none⟩)) (n:=N) (cap:=N) (p:=px) (z:=z) (most:=most) (e:=ex) HFnx.out (show FB ≠ B by omega));have HOWx:=Qf (VM (a:=(some ⟨ab,0,none⟩)) (n:=N) (cap:=N) (p:=px) (z:=z) (most:=most) (e:=ex) HOnx.out (show B<LB by omega));have HUWx:=Qf (XF (a:=(some ⟨ab,0,none⟩)) (n:=N) (cap:=N) (p:=px) (z:=z) (most:=most) (e:=ex) HUnx.out HauB.out);rw[HWWx.out] at HFWx HOWx HUWx;have hsWx:w9.heap.size<=Wx.heap.size:=(by rw[show Wx.heap.size=wnx.heap.size by rw[<-HWWx.out];unfold setS;simp[World.setCell]];exact hsx);clear c0 c1 c2 c3 c4 f0 f1 f2 f3 f4;clear HSnx HFnx HOnx HUnx HWWx;have hvxb:vx<4:=hvx;obtain⟨kk,Hkk⟩:=Qi (3+vx)
            have hkI:(3:Int)+(vx:Int)=(kk:Int):=by have:=Hkk.out;omega
            have hkl:kk<=138:=by have:=Hkk.out;omega
            have HLy:Hid (LR s RES px z ex (lC K need fu (dG2 f v1 need) (l++List.replicate kk 16))):=by
             show LR _ _ _ _ _ _;rw[<-Hkk.out];exact HLx
            clear HLx;go_wp2_with fail;go_meet;exact⟨px,ex,kk,16,rfl,rfl,hkl,hpx,by omega,Qf (fun h0=>absurd (EX0 h0) hew0),HLy,HSWx,HFWx,HOWx,HUWx,hsWx⟩
          have d0:((ll:Int)==0)=false:=(by simp;omega);have d0b:(ll==0)=false:=(by simp;omega);have d1:decide (0<(ll:Int))=true:=Qg (by omega);have d1b:decide (0<ll)=true:=Qg (by omega);obtain⟨ew,Hew⟩:∃x:Nat,Hid ((if false then Yu ea 3 else ea)=x):=⟨_,Qf (Eq.refl _)⟩;have C:=CW.out pa z ea 3 false Wa;rw[Hew.out] at C;have HC:=Qf C
          have hl0':l ≠ []:=fun e=>by rw[e] at Hll;have:=Hll.out;simp at this;omega
          obtain⟨y,Hy⟩:=Qi (l.getLastD 0)
          have HLb:Hid (LR s RES pa z ew (fun σ=>Yc (Yy 2 σ) fun b σ2=>lC K need fu (dG2 f v1 need) (l++List.replicate (3+b) y) σ2)):=by
           show LR _ _ _ _ _ _;rw[<-Hew.out,if_neg (by decide),<-Hy.out];have h:LR s RES pa z ea (fun σ=>if l=[] then .error 3 else Yc (Yy 2 σ) fun b σ2=>lC K need fu (dG2 f v1 need) (l++List.replicate (3+b) (l.getLastD 0)) σ2):=HLa.out.congr (by unfold lF1;rw[if_pos rfl]);exact h.pass hl0'
          have hy15:Hid (y<=15):=by
           show _<=_;rw[<-Hy.out,List.getLastD_eq_getLast?]
           cases h:l.getLast? with
           |none=>decide
           |some x=>exact H15.out (by first|rfl|trivial) x (List.mem_of_getLast? h)
          obtain⟨l1,Hl1⟩:∃x,Hid (ll=x+1):=⟨ll-1,by show _=_;omega⟩
          have hl1I:(ll:Int)-1=(l1:Int):=by have:=Hl1.out;omega
          have hl1l:l1<ll:=by have:=Hl1.out;omega
          have hyg:Hid (l.getD l1 0=y):=by
           show _=_;rw[<-Hy.out,List.getLastD_eq_getLast?,List.getLast?_eq_getElem?,Hll.out,show ll-1=l1 by have:=Hl1.out;omega];rfl
          clear hl0'
          have Hea:Hid (ew=0->ea=0):=Qf (fun h0=>by
           have h:=Hew.out
           first
            |(rw[if_neg (by decide)] at h;omega)
            |exact absurd h0 hew0)
          clear HLa Hew C;obtain⟨c0,c1,c2,c3,c4,f0,f1,f2,f3,f4⟩:=HSWa.out.cells;go_wp2_with fail;refine(HC.out).mono ?_;rintro r ww ⟨rfl,hbw⟩;have hsw:w9.heap.size<=ww.heap.size:=Qe hsW hbw.size;have HSw:=Qf (HSWa.out.below hbw);have HFw:=Qf (HFWa.out.below hbw HFWa.out.lt);have HOw:=Qf (YP HOWa.out hbw (Qa _));have HUw:=Qf (HUWa.out.below2 hbw);clear HSWa HFWa HOWa HUWa;clear c0 c1 c2 c3 c4 f0 f1 f2 f3 f4;obtain⟨c0,c1,c2,c3,c4,f0,f1,f2,f3,f4⟩:=HSw.out.cells;clear hbw HC;go_upto_region 26 with(fail);change Code.wp _ _ _ _ (setS ww B (some ⟨ab,0,none⟩) N N pa z most ew);have HSWw:=Qf (HSw.out.set_ pa z most ew);obtain⟨Ww,HWWw⟩:=Qi (setS ww B (some ⟨ab,0,none⟩) N N pa z most ew);rw[HWWw.out] at HSWw ⊢;have HFWw:=Qf (YX (a:=(some ⟨ab,0,none⟩)) (n:=N) (cap:=N) (p:=pa) (z:=z) (most:=most) (e:=ew) HFw.out (show FB ≠ B by omega));have HOWw:=Qf (VM (a:=(some ⟨ab,0,none⟩)) (n:=N) (cap:=N) (p:=pa) (z:=z) (most:=most) (e:=ew) HOw.out (show B<LB by omega));have HUWw:=Qf (XF (a:=(some ⟨ab,0,none⟩)) (n:=N) (cap:=N) (p:=pa) (z:=z) (most:=most) (e:=ew) HUw.out HauB.out);rw[HWWw.out] at HFWw HOWw HUWw;have hsWw:w9.heap.size<=Ww.heap.size:=(by rw[show Ww.heap.size=ww.heap.size by rw[<-HWWw.out];unfold setS;simp[World.setCell]];exact hsw);clear c0 c1 c2 c3 c4 f0 f1 f2 f3 f4;clear HSw HFw HOw HUw HWWw;obtain⟨c0,c1,c2,c3,c4,f0,f1,f2,f3,f4⟩:=HSWw.out.cells;go_wp2_with fail;clear c0 c1 c2 c3 c4 f0 f1 f2 f3 f4;refine(CN.out 2 (by decide) pa z ew (by omega) (_) Ww HLb.out (HBr.out.below HSWw.out.2.2.1 (Qa _))).mono ?_;rintro r wnx ⟨px,vx,ex,rfl,HLx,hvx,hpx,hpx',hzx,hbx⟩;have HSnx:=Qf (HSWw.out.below hbx);have HFnx:=Qf (HFWw.out.below hbx HFWw.out.lt);have HOnx:=Qf (YP HOWw.out hbx (Qa _));have HUnx:=Qf (HUWw.out.below2 hbx);clear HSWw HFWw HOWw HUWw;obtain⟨c0,c1,c2,c3,c4,f0,f1,f2,f3,f4⟩:=HSnx.out.cells;have EX0:ex=0->ew=0:=hzx.2;have hsx:w9.heap.size<=wnx.heap.size:=Qe hsWw hbx.size;clear hbx hzx HLb;go_upto_region 27 with(fail);change Code.wp _ _ _ _ (setS wnx B (some ⟨ab,0,none⟩) N N px z most ex);have HSWx:=Qf (HSnx.out.set_ px z most ex);obtain⟨Wx,HWWx⟩:=Qi (setS wnx B (some ⟨ab,0,none⟩) N N px z most ex);rw[HWWx.out] at HSWx ⊢;have HFWx:=Qf (YX (a:=(some ⟨ab,0,none⟩)) (n:=N) (cap:=N) (p:=px) (z:=z) (most:=most) (e:=ex) HFnx.out (show FB ≠ B by omega));have HOWx:=Qf (VM (a:=(some ⟨ab,0,none⟩)) (n:=N) (cap:=N) (p:=px) (z:=z) (most:=most) (e:=ex) HOnx.out (show B<LB by omega));have HUWx:=Qf (XF (a:=(some ⟨ab,0,none⟩)) (n:=N) (cap:=N) (p:=px) (z:=z) (most:=most) (e:=ex) HUnx.out HauB.out);rw[HWWx.out] at HFWx HOWx HUWx;have hsWx:w9.heap.size<=Wx.heap.size:=(by rw[show Wx.heap.size=wnx.heap.size by rw[<-HWWx.out];unfold setS;simp[World.setCell]];exact hsx);clear c0 c1 c2 c3 c4 f0 f1 f2 f3 f4;clear HSnx HFnx HOnx HUnx HWWx;have hvxb:vx<4:=hvx;obtain⟨kk,Hkk⟩:=Qi (3+vx)
          have hkI:(3:Int)+(vx:Int)=(kk:Int):=by have:=Hkk.out;omega
          have hkl:kk<=138:=by have:=Hkk.out;omega
          have HLy:Hid (LR s RES px z ex (lC K need fu (dG2 f v1 need) (l++List.replicate kk y))):=by
           show LR _ _ _ _ _ _;rw[<-Hkk.out];exact HLx
          clear HLx;obtain⟨gg,rfl,_,_,_,hcc⟩:=OwnN.pos HOWx.out Hll.out (by omega);have hcy:=hcc l1 hl1l;rw[hyg.out] at hcy;clear hcc;go_wp2_with fail;go_meet;exact⟨px,ex,kk,y,rfl,rfl,hkl,hpx,by omega,Qf (fun h0=>⟨Hea.out (EX0 h0),hy15.out⟩),HLy,HSWx,HFWx,HOWx,HUWx,hsWx⟩
        by_cases h17:sy=17
        . subst h17
          have HLb:Hid (LR s RES pa z ea (fun σ=>Yc (Yy 3 σ) fun b σ2=>lC K need fu (dG2 f v1 need) (l++List.replicate (3+b) 0) σ2)):=HLa.out.congr (by unfold lF1;rw[if_neg (by decide),if_pos rfl]);clear HLa;obtain⟨c0,c1,c2,c3,c4,f0,f1,f2,f3,f4⟩:=HSWa.out.cells;go_wp2_with fail;clear c0 c1 c2 c3 c4 f0 f1 f2 f3 f4;refine(CN.out 3 (by decide) pa z ea (by omega) (_) Wa HLb.out (HBr.out.below HSWa.out.2.2.1 (Qa _))).mono ?_;rintro r wnx ⟨px,vx,ex,rfl,HLx,hvx,hpx,hpx',hzx,hbx⟩;have HSnx:=Qf (HSWa.out.below hbx);have HFnx:=Qf (HFWa.out.below hbx HFWa.out.lt);have HOnx:=Qf (YP HOWa.out hbx (Qa _));have HUnx:=Qf (HUWa.out.below2 hbx);clear HSWa HFWa HOWa HUWa;obtain⟨c0,c1,c2,c3,c4,f0,f1,f2,f3,f4⟩:=HSnx.out.cells;have EX0:ex=0->ea=0:=hzx.2;have hsx:w9.heap.size<=wnx.heap.size:=Qe hsW hbx.size;clear hbx hzx HLb;go_upto_region 32 with(fail);change Code.wp _ _ _ _ (setS wnx B (some ⟨ab,0,none⟩) N N px z most ex);have HSWx:=Qf (HSnx.out.set_ px z most ex);obtain⟨Wx,HWWx⟩:=Qi (setS wnx B (some ⟨ab,0,none⟩) N N px z most ex);rw[HWWx.out] at HSWx ⊢;have HFWx:=Qf (YX (a:=(some ⟨ab,0,none⟩)) (n:=N) (cap:=N) (p:=px) (z:=z) (most:=most) (e:=ex) HFnx.out (show FB ≠ B by omega));have HOWx:=Qf (VM (a:=(some ⟨ab,0,none⟩)) (n:=N) (cap:=N) (p:=px) (z:=z) (most:=most) (e:=ex) HOnx.out (show B<LB by omega));have HUWx:=Qf (XF (a:=(some ⟨ab,0,none⟩)) (n:=N) (cap:=N) (p:=px) (z:=z) (most:=most) (e:=ex) HUnx.out HauB.out);rw[HWWx.out] at HFWx HOWx HUWx;have hsWx:w9.heap.size<=Wx.heap.size:=(by rw[show Wx.heap.size=wnx.heap.size by rw[<-HWWx.out];unfold setS;simp[World.setCell]];exact hsx);clear c0 c1 c2 c3 c4 f0 f1 f2 f3 f4;clear HSnx HFnx HOnx HUnx HWWx;have hvxb:vx<2^3:=hvx
          have hvxl:vx<=127:=by
           have:(2:Nat)^3<=128:=(by decide);omega
          obtain⟨kk,Hkk⟩:=Qi (3+vx)
          have hkI:(3:Int)+(vx:Int)=(kk:Int):=by have:=Hkk.out;omega
          have hkl:kk<=138:=by have:=Hkk.out;omega
          have HLy:Hid (LR s RES px z ex (lC K need fu (dG2 f v1 need) (l++List.replicate kk 0))):=by
           show LR _ _ _ _ _ _;rw[<-Hkk.out];exact HLx
          clear HLx;go_wp2_with fail;go_meet;exact⟨px,ex,kk,0,rfl,rfl,hkl,hpx,by omega,Qf (fun h0=>⟨EX0 h0,by decide⟩),HLy,HSWx,HFWx,HOWx,HUWx,hsWx⟩
        by_cases h18:sy=18
        . subst h18
          have HLb:Hid (LR s RES pa z ea (fun σ=>Yc (Yy 7 σ) fun b σ2=>lC K need fu (dG2 f v1 need) (l++List.replicate (11+b) 0) σ2)):=HLa.out.congr (by unfold lF1;rw[if_neg (by decide),if_neg (by decide),if_pos rfl]);clear HLa;obtain⟨c0,c1,c2,c3,c4,f0,f1,f2,f3,f4⟩:=HSWa.out.cells;go_wp2_with fail;clear c0 c1 c2 c3 c4 f0 f1 f2 f3 f4;refine(CN.out 7 (by decide) pa z ea (by omega) (_) Wa HLb.out (HBr.out.below HSWa.out.2.2.1 (Qa _))).mono ?_;rintro r wnx ⟨px,vx,ex,rfl,HLx,hvx,hpx,hpx',hzx,hbx⟩;have HSnx:=Qf (HSWa.out.below hbx);have HFnx:=Qf (HFWa.out.below hbx HFWa.out.lt);have HOnx:=Qf (YP HOWa.out hbx (Qa _));have HUnx:=Qf (HUWa.out.below2 hbx);clear HSWa HFWa HOWa HUWa;obtain⟨c0,c1,c2,c3,c4,f0,f1,f2,f3,f4⟩:=HSnx.out.cells;have EX0:ex=0->ea=0:=hzx.2;have hsx:w9.heap.size<=wnx.heap.size:=Qe hsW hbx.size;clear hbx hzx HLb;go_upto_region 36 with(fail);change Code.wp _ _ _ _ (setS wnx B (some ⟨ab,0,none⟩) N N px z most ex);have HSWx:=Qf (HSnx.out.set_ px z most ex);obtain⟨Wx,HWWx⟩:=Qi (setS wnx B (some ⟨ab,0,none⟩) N N px z most ex);rw[HWWx.out] at HSWx ⊢;have HFWx:=Qf (YX (a:=(some ⟨ab,0,none⟩)) (n:=N) (cap:=N) (p:=px) (z:=z) (most:=most) (e:=ex) HFnx.out (show FB ≠ B by omega));have HOWx:=Qf (VM (a:=(some ⟨ab,0,none⟩)) (n:=N) (cap:=N) (p:=px) (z:=z) (most:=most) (e:=ex) HOnx.out (show B<LB by omega));have HUWx:=Qf (XF (a:=(some ⟨ab,0,none⟩)) (n:=N) (cap:=N) (p:=px) (z:=z) (most:=most) (e:=ex) HUnx.out HauB.out);rw[HWWx.out] at HFWx HOWx HUWx;have hsWx:w9.heap.size<=Wx.heap.size:=(by rw[show Wx.heap.size=wnx.heap.size by rw[<-HWWx.out];unfold setS;simp[World.setCell]];exact hsx);clear c0 c1 c2 c3 c4 f0 f1 f2 f3 f4;clear HSnx HFnx HOnx HUnx HWWx;have hvxb:vx<2^7:=hvx
          have hvxl:vx<=127:=by
           have:(2:Nat)^7<=128:=(by decide);omega
          obtain⟨kk,Hkk⟩:=Qi (11+vx)
          have hkI:(11:Int)+(vx:Int)=(kk:Int):=by have:=Hkk.out;omega
          have hkl:kk<=138:=by have:=Hkk.out;omega
          have HLy:Hid (LR s RES px z ex (lC K need fu (dG2 f v1 need) (l++List.replicate kk 0))):=by
           show LR _ _ _ _ _ _;rw[<-Hkk.out];exact HLx
          clear HLx;go_wp2_with fail;go_meet;exact⟨px,ex,kk,0,rfl,rfl,hkl,hpx,by omega,Qf (fun h0=>⟨EX0 h0,by decide⟩),HLy,HSWx,HFWx,HOWx,HUWx,hsWx⟩
        have s16:=hsI 16 h16;have s17:=hsI 17 h17;have s18:=hsI 18 h18;have HLy:Hid (LR s RES pa z ea (lC K need fu (dG2 f v1 need) (l++List.replicate 1 sy))):=HLa.out.congr (by unfold lF1;rw[if_neg h16,if_neg h17,if_neg h18];rfl);go_wp2_with fail;go_meet;exact⟨pa,ea,1,sy,rfl,rfl,by decide,Qa _,by omega,Qf (fun h0=>⟨h0,by have:=Hza.out h0;omega⟩),HLy,HSWa,HFWa,HOWa,HUWa,hsW⟩
       case rest=>
       obtain⟨p',e',k,y,rfl,rfl,hk138,hpp',hpp2,H15b,HLc,HSc,HFc,HOc,HUc,hsc⟩:=hcut;clear HSWa HFWa HOWa HUWa HLa hsI hsa hsW
       have HO0:Hid (OwnN wc LB (.slice va ll vc) (l++List.replicate 0 y)):=by
        show OwnN _ _ _ _;rw[List.replicate_zero,List.append_nil];exact HOc.out
       go_wp2_with fail
       go_loopw [12,16] (fun v_ k_ wx=>∃j:Nat,j<=k/\k_=.int .i64 (((k-j:Nat)):Int)/\Hid (OwnN wx LB v_ (l++List.replicate j y))/\Hid (SAt w wx B (some ⟨ab,0,none⟩) N N p' z most e')/\Hid (Blk wx FB 3 (Yg 19 (KG m)))/\Hid (∀g,v_.ownBlock=some g->g=LB\/w9.heap.size<=g)/\Hid (URow wx au 19 FK)/\w9.heap.size<=wx.heap.size) (fun _ k_ _=>(intOf k_).toNat)
       case atStart=>exact⟨0,by omega,rfl,HO0,HSc,HFc,HVr,HUc,hsc⟩
       clear HO0 HSc HFc HOc HVr HUc hsc;obtain⟨j,hj,rfl,HO3,HS3,HF3,HV3,HU3,hs3⟩:=hrel;obtain⟨r,Hr⟩:=Qi (k-j);rw[Hr.out];by_cases hr0:0<r
       . have dr:decide (0<(r:Int))=true:=Qg (by omega)
         have hlen:(l++List.replicate j y).length=ll+j:=(by rw[List.length_append,Hll.out,List.length_replicate]);have hos:=OwnN.row HO3.out hlen;have hlj:ll+j<=700:=(by omega);have hbsw:LB<=wr.heap.size:=Qe (Nat.le_of_lt hLB9) hs3
         have hrb:r<=138:=by have:=Hr.out;omega
         go_wp2_with (first
          |(at_builtin;go_must (refine Yd wr rfl (.tmp 141) (.tmp 143) rfl Tryz.underlying113 Y9 rfl (by decide) LB u12 (ll+j) (VA (l++List.replicate j y)) [.int .i64 (y:Int)] hos rfl ?_ rfl rfl rfl ?_ ?_ hbsw ?_;(intro u hu;simp at hu;subst hu;rfl);(unfold maxLen;omega);omega;intro v7 w7 hown7 hg7 hn7;have HO7:=Qf hown7;have HG7:=Qf hg7;have HN7:=Qf hn7;clear hown7 hg7 hn7))
          |fail)
         have HS7:=Qf (HS3.out.grown HG7.out (fun g hg=>by have:=(World.ownsRow.lt hos g hg).1;omega));have HF7:=Qf (HF3.out.grown HG7.out (fun e=>by have:=(World.ownsRow.lt hos FB e.symm).1;omega));have HU7:=Qf (HU3.out.grown HG7.out (fun b off sp e e2=>by have h1:=Hau.out b off sp e;have h2:=HV3.out b e2.symm;omega))
         have HV7:Hid (∀g,v7.ownBlock=some g->g=LB\/w9.heap.size<=g):=Qf (fun g hg=>by
          by_cases h1:g<wr.heap.size
          . by_cases h2:u12.ownBlock=some g
            . exact HV3.out g h2
            exact absurd hg (HN7.out g h1 h2)
          exact .inr (Qe hs3 (by omega)))
         have HO7b:Hid (OwnN w7 LB v7 (l++List.replicate (j+1) y)):=Qf (by
          have h:=OwnN.add (m:=[y]) HO7.out hlen rfl rfl;rw[List.append_assoc,show List.replicate j y++[y]=List.replicate (j+1) y from List.replicate_succ'.symm] at h
          exact h)
         have hs7:w9.heap.size<=w7.heap.size:=Qe hs3 HG7.out.size
         have hj1:j+1<=k:=by have:=Hr.out;omega
         have hkj:(r:Int)-1=((k-(j+1):Nat):Int):=by have:=Hr.out;omega
         have Hkj:=Qf hkj;clear hkj HS3 HF3 HU3 HV3 HO3 HO7 HN7 HG7 hos hbsw hlj hlen hs3;go_roundw
         case rel=>exact⟨j+1,hj1,by rw[Hkj.out],HO7b,HS7,HF7,HV7,HU7,hs7⟩
         simp[intOf];omega
       have hjk:j=k:=by have:=Hr.out;omega
       subst hjk;have hr00:r=0:=(by omega);subst hr00;obtain⟨L,HL⟩:=Qi (l++List.replicate j y);have hLl:L.length<=480:=(by rw[<-HL.out,List.length_append,Hll.out,List.length_replicate];omega);rw[HL.out] at HO3 HLc;have HT3:Hid (LTr K need s RES (dG2 f v1 need) p' z e' L):=LTr.next HLc.out Hfu.out (fun h0=>by have:=Hza.out (H15b.out h0).1;omega)
       have H153:Hid (e'=0->∀t ∈ L,t<=15):=Qf (fun h0 t ht=>by
        rw[<-HL.out] at ht;rcases List.mem_append.1 ht with ht|ht
        . exact H15.out (by first|rfl|trivial) t ht
        rw[List.eq_of_mem_replicate ht]
        exact(H15b.out h0).2)
       have hp'N:p'<=N+40:=by have:=hpe (by first|rfl|trivial);omega
       have hp'q:q0<=p':=by omega
       have Hp'e:Hid (e'=0->p'<=N):=Qf (fun h0=>by
        rcases HLc.out with⟨_,h,_⟩|⟨h,_⟩
        . have:=HN.out;omega
        exact absurd h0 h)
       have hmea:e'=0->N+1-p'<N+1-p:=fun h0=>by
        have:=Hza.out (H15b.out h0).1;have:=Hp'e.out h0;omega
       have hpN1:0<N+1-p:=by have:=hpe (by first|rfl|trivial);omega
       have Hmea:=Qf hmea;have cm4:Ym wr ⟨B,4,none⟩=e':=Yf HS3.out.cells.2.2.2.2.1;have cm1:Ym wr ⟨B,1,none⟩=p':=Yf HS3.out.cells.2.1;have Hdm4:=Qf cm4;have Hdm1:=Qf cm1;clear cm4 cm1 hmea HLc;go_wp2_with fail;go_roundw
       case rel=>exact⟨p',e',L,hp'q,hp'N,Hp'e.out,hLl,H153,HT3,HS3,HF3,HO3,HV3,HU3,hs3⟩
       rw[Hdm4.out,Hdm1.out,Hcm4.out,Hcm1.out,if_pos rfl];split
       . exact Hmea.out (by assumption)
       exact hpN1
     have dl:decide ((ll:Int)<(need:Int))=false:=Qh (by omega);have dlb:decide (ll<need)=false:=(by rw[decide_eq_false_iff_not];exact hlt);have hLs:Hid (LR s RES p z 0 (dG2 f v1 need l)):=HT.out.stop (by rw[Hll.out];exact hlt);clear HT;obtain⟨gg,rfl,hgg1,hgg2,hgg3,hcc⟩:=OwnN.pos HOr.out Hll.out (by have:=Hneed.out;omega);have hc256:=hcc 256 (by have:=Hneed.out;omega);have Hcc:=Qf hcc;obtain⟨yy,Hyy⟩:=Qi (l.getD 256 0);rw[Hyy.out] at hc256
     have hll257:256<ll:=by have:=Hneed.out;omega
     clear hcc;go_upto_region 41 with(fail)
     go_cut [] from 145 to 164 (fun wx=>∃e':Nat,Hid (SAt w wx B (some ⟨ab,0,none⟩) N N p z most e')/\Hid (e'=0->ll=need)/\Hid (LR s RES p z e' (f (l,v1+257)))/\Hid (OwnN wx LB (.slice (some ⟨gg,0,none⟩) ll vc) l))
     case first=>
      have HSd:=Qf HSr.out.drew;have hc256d:wr.drew.cell? ⟨gg,256,none⟩=some (.int .i64 (yy:Int)):=hc256;have hggd:gg<wr.drew.heap.size:=hgg2;by_cases hn1:need<ll
      . have dn:decide ((need:Int)<(ll:Int))=true:=Qg (by omega)
        have dnb:decide (need<ll)=true:=(by rw[decide_eq_true_eq];exact hn1);have hwA:IntKind.i64.wrap ((v1:Int)+(v2:Int))=(v1:Int)+(v2:Int):=by rw[IntKind.wrap_i64];omega
        have hwB:IntKind.i64.wrap ((v1:Int)+(v2:Int)+258)=(need:Int):=by rw[IntKind.wrap_i64];have:=Hneed.out;omega
        have hwC:IntKind.i64.wrap (need:Int)=(need:Int):=by rw[IntKind.wrap_i64];have:=Hneed.out;omega
        have hleI:¬((ll:Int)<=(need:Int)):=(by omega);have hleN:¬(ll<=need):=by omega
        have HLe:Hid (LR s RES p z 3 (f (l,v1+257))):=by
         have h:=hLs.out.ok.2;refine .inr ⟨by decide,?_⟩;rw[<-h];unfold dG2;rw[if_pos (.inl (by rw[Hll.out];exact hn1))]
        have C:=Qf (fun W=>CW.out p z 0 3 true W);obtain⟨wz,hz⟩:∃W,W=wr.drew:=⟨_,rfl⟩;have HSz:Hid (SAt w wz B (some ⟨ab,0,none⟩) N N p z most 0):=(by rw[hz];exact HSd);have hz256:wz.cell? ⟨gg,256,none⟩=some (.int .i64 (yy:Int)):=(by rw[hz];exact hc256d);have HOz2:Hid (OwnN wz LB (.slice (some ⟨gg,0,none⟩) ll vc) l):=(by rw[hz];exact HOr);clear c0 c1 c2 c3 c4 f0 f1 f2 f3 f4 hc256 hc256d HSd;obtain⟨c0,c1,c2,c3,c4,f0,f1,f2,f3,f4⟩:=HSz.out.cells;refine Xd 19 hz (by kernel_rfl) (by kernel_rfl) ?_;clear hz;simp only[List.take_succ_cons,List.take_zero,List.drop_succ_cons,List.drop_zero]
        iterate 19 still_step
        refine wpStill_nil ?_;go_wp2_with fail;refine(C.out _).mono ?_;rintro r w2 ⟨rfl,hb2⟩;have HS2:=Qf (HSz.out.below hb2);obtain⟨k0,k1,k2,k3,k4,h0,h1,h2,h3,h4⟩:=HS2.out.cells;go_wp2_with fail;go_meet;exact⟨3,Qf (HS2.out.set_ p z most 3),Qf (fun h=>by cases h),HLe,Qf (VM (YP (show OwnN wz LB (.slice (some ⟨gg,0,none⟩) ll vc) l from HOz2.out) hb2 (Qa _)) (show B<LB by omega))⟩
      have dn:decide ((need:Int)<(ll:Int))=false:=Qh (by omega);have dnb:decide (need<ll)=false:=(by rw[decide_eq_false_iff_not];exact hn1);have hwA:IntKind.i64.wrap ((v1:Int)+(v2:Int))=(v1:Int)+(v2:Int):=by rw[IntKind.wrap_i64];omega
      have hwB:IntKind.i64.wrap ((v1:Int)+(v2:Int)+258)=(need:Int):=by rw[IntKind.wrap_i64];have:=Hneed.out;omega
      have hwC:IntKind.i64.wrap (need:Int)=(need:Int):=by rw[IntKind.wrap_i64];have:=Hneed.out;omega
      have hleI:(ll:Int)<=(need:Int):=(by omega);have h256I:(256:Int)<(ll:Int):=(by omega);have hleN:ll<=need:=(by omega);obtain⟨D,HD⟩:∃D:Bool,Hid (((yy:Int)==0)=D):=⟨_,Qf (Eq.refl _)⟩;have hD:=HD.out;have hDb:(yy==0)=D:=(by rw[<-hD,Bool.eq_iff_iff];simp);obtain⟨e',He'⟩:∃x:Nat,Hid ((if D then Yu 0 3 else 0)=x):=⟨_,Qf (Eq.refl _)⟩;have C0:=fun W=>CW.out p z 0 3 D W;rw[He'.out] at C0;have C:=Qf C0
      have HLe:Hid (LR s RES p z e' (f (l,v1+257))):=by
       have h:=hLs.out.ok;show LR _ _ _ _ _ _;rw[<-He'.out];by_cases h0:yy=0
       . have hDt:D=true:=by rw[<-hD,h0];rfl
         rw[hDt,if_pos rfl];refine .inr ⟨by decide,?_⟩;rw[<-h.2];unfold dG2;rw[if_pos (.inr (by rw[Hyy.out];exact h0))];rfl
       have hDf:D=false:=(by rw[<-hD];simp;omega);rw[hDf,if_neg (by decide)];refine .inl ⟨rfl,h.1,?_⟩;rw[<-h.2];unfold dG2;rw[if_neg (fun hh=>by rcases hh with hh|hh;(rw[Hll.out] at hh;omega);(rw[Hyy.out] at hh;omega))]
      clear C0;obtain⟨wz,hz⟩:∃W,W=wr.drew:=⟨_,rfl⟩;have HSz:Hid (SAt w wz B (some ⟨ab,0,none⟩) N N p z most 0):=(by rw[hz];exact HSd);have hz256:wz.cell? ⟨gg,256,none⟩=some (.int .i64 (yy:Int)):=(by rw[hz];exact hc256d);have HOz2:Hid (OwnN wz LB (.slice (some ⟨gg,0,none⟩) ll vc) l):=(by rw[hz];exact HOr);clear c0 c1 c2 c3 c4 f0 f1 f2 f3 f4 hc256 hc256d HSd;obtain⟨c0,c1,c2,c3,c4,f0,f1,f2,f3,f4⟩:=HSz.out.cells;refine Xd 19 hz (by kernel_rfl) (by kernel_rfl) ?_;clear hz;simp only[List.take_succ_cons,List.take_zero,List.drop_succ_cons,List.drop_zero]
      iterate 19 still_step
      refine wpStill_nil ?_;go_wp2_with fail;refine(C.out _).mono ?_;rintro r w2 ⟨rfl,hb2⟩;have HS2:=Qf (HSz.out.below hb2);obtain⟨k0,k1,k2,k3,k4,h0,h1,h2,h3,h4⟩:=HS2.out.cells;go_wp2_with fail;go_meet;exact⟨e',Qf (HS2.out.set_ p z most e'),Qf (fun _=>by omega),HLe,Qf (VM (YP (show OwnN wz LB (.slice (some ⟨gg,0,none⟩) ll vc) l from HOz2.out) hb2 (Qa _)) (show B<LB by omega))⟩
     case rest=>
     obtain⟨e',HSe,Hle,HLe,HOe⟩:=hcut;clear c0 c1 c2 c3 c4 f0 f1 f2 f3 f4;clear hLs HSr HFr HOr HVr HUr hc256;obtain⟨c0,c1,c2,c3,c4,f0,f1,f2,f3,f4⟩:=HSe.out.cells;by_cases he':e'=0
     . subst he'
       have hlen:=Hle.out (by first|rfl|trivial);go_upto_region 44 with(fail);have HSd:=Qf HSe.out.drew;obtain⟨d0,d1,d2,d3,d4,g0,g1,g2,g3,g4⟩:=HSe.out.res;obtain⟨n1,Hn1⟩:=Qi (v1+257)
       have hn1I:(v1:Int)+257=(n1:Int):=by have:=Hn1.out;omega
       have hn1l:n1<ll:=by have:=Hn1.out;have:=Hneed.out;omega
       have hn1lI:(n1:Int)<(ll:Int):=(by omega);have hn1c:n1<vc:=(by omega);have hn1cI:(n1:Int)<(vc:Int):=by omega
       have hn1z:257<=n1:=by have:=Hn1.out;omega
       have hn288:n1<=288:=by have:=Hn1.out;omega
       have hn32:ll-n1<=32:=by have:=Hn1.out;have:=Hneed.out;omega
       have hnll:n1+(ll-n1)=l.length:=(by rw[Hll.out];omega);have hpl2:p<=200000:=(by omega);have Hpq2:Hid (q0<=p):=hqp;have Hn32:=Qf hn32;have Hnll:=Qf hnll;clear hlen hn32 hnll;have hn1w:IntKind.i64.wrap (n1:Int)=(n1:Int):=IntWalk.i64_in _ (by omega)
       go_region
       all_goals
        go_wp2_with fail
        (try simp only[Exit.inBlock,Exit.then])
        have HOz:=Qf (VM (B:=B+1) (n:=N) (cap:=N) (p:=p) (z:=z) (most:=most) (e:=0) (a:=(some ⟨ab,0,none⟩)) (show OwnN wc LB (.slice (some ⟨gg,0,none⟩) l.length vc) l by rw[Hll.out];exact HOe.out) hLB.1);have HRz:=Qf (HSe.out.ret (some ⟨ab,0,none⟩) N N p z most 0);change bodyPost _ _ _ _ _ (setS wc (B+1) (some ⟨ab,0,none⟩) N N p z most 0).drew;obtain⟨Wz,HWz⟩:=Qi (setS wc (B+1) (some ⟨ab,0,none⟩) N N p z most 0);rw[HWz.out] at HOz HRz ⊢;have HBz:Below w.heap.size w Wz.drew:=⟨HRz.out.2.os,HRz.out.2.tape,HRz.out.2.output,HRz.out.2.size,HRz.out.2.block⟩;refine bodyPost_ret (K4 rfl rfl HRz.out.1.drew) rfl ?_;have HOy:OwnN Wz.drew LB (.slice (some ⟨gg,0,none⟩) l.length vc) l:=HOz.out
        have hgg:w.heap.size<=gg:=by have h1:=(World.ownsRow.lt HOy gg rfl).1;have h2:=HSe.out.2.2.2;have h3:=hLB.1;omega
        unfold Jw;refine⟨p,0,l,n1,some ⟨gg,0,none⟩,some ⟨gg,n1,none⟩,ll-n1,vc,vc-n1,rfl,?_,hpl2,(by rw[Hq0.out];exact Hpq2.out),Qf (fun _=>⟨?_,?_,hn288,Hn32.out,Hnll.out,H15.out (by first|rfl|trivial),fun b off sp h=>by rcases h with h|h<;>(injection h with h;injection h with h1;rw[<-h1];exact hgg)⟩),HBz⟩
        . show LR _ _ _ _ _ _
          rw[<-Hn1.out];exact HLe.out
        . refine .inr ⟨gg,0,rfl,(World.ownsRow.lt HOy gg rfl).2,fun i hi=>?_⟩
          rw[Nat.zero_add];refine(OwnN.cell HOy i (by rw[Hll.out];exact Nat.lt_trans hi hn1l)).trans ?_
          have e:lenF (l.take n1) i=((l.getD i 0:Nat):Int):=by
           unfold lenF;simp[List.getD,hi]
          rw[e]
        refine .inr ⟨gg,n1,rfl,(World.ownsRow.lt HOy gg rfl).2,fun i hi=>?_⟩;refine(OwnN.cell HOy (n1+i) (by rw[<-Hnll.out];exact Nat.add_lt_add_left hi n1)).trans ?_
        have e:lenF (l.drop n1) i=((l.getD (n1+i) 0:Nat):Int):=by
         unfold lenF;simp[List.getD,List.getElem?_drop]
        rw[e]
     have de':((e':Int)==0)=false:=(by simp;omega);have deb':((e':Int)!=0)=true:=(by simp;omega);have heX:=he';have HLf:Hid (LR s RES p z e' (f ([],0))):=HLe.out.moved he';clear HLe he';obtain⟨d0,d1,d2,d3,d4,g0,g1,g2,g3,g4⟩:=HSe.out.res;go_wp2_with fail
     (try simp only[Exit.inBlock,Exit.then])
     refine bodyPost_ret (K4 rfl rfl (HSe.out.ret _ _ _ p z most e').1) rfl ?_;unfold Jw;exact⟨p,e',[],0,none,none,0,0,0,rfl,HLf,by omega,by have:=Hq0.out;omega,Qf (fun h=>absurd h heX),(HSe.out.ret _ _ _ p z most e').2⟩
   have de:((e:Int)==0)=false:=by simp;omega
   have deb:((e:Int)!=0)=true:=by simp;omega
   have heX:=he
   have HLf:Hid (LR s RES p z e (f ([],0))):=by
    rcases HT.out with⟨h0,_⟩|h
    . exact absurd h0 he
    exact .inr h
   clear HT he;go_upto_region 41 with(fail)
   go_cut [] from 145 to 164 (fun wx=>Hid (SAt w wx B (some ⟨ab,0,none⟩) N N p z most e))
   case first=>
    have HSd:=Qf HSr.out.drew;have C:=Qf (fun W=>CW.out p z e 3 false W);obtain⟨wz,hz⟩:∃W,W=wr.drew:=⟨_,rfl⟩;have HSz:Hid (SAt w wz B (some ⟨ab,0,none⟩) N N p z most e):=(by rw[hz];exact HSd);clear c0 c1 c2 c3 c4 f0 f1 f2 f3 f4 HSd hpe heX deb;obtain⟨c0,c1,c2,c3,c4,f0,f1,f2,f3,f4⟩:=HSz.out.cells;refine Xd 19 hz (by kernel_rfl) (by kernel_rfl) ?_;clear hz;simp only[List.take_succ_cons,List.take_zero,List.drop_succ_cons,List.drop_zero]
    iterate 19 still_step
    refine wpStill_nil ?_;go_wp2_with fail;refine(C.out _).mono ?_;rintro r w2 ⟨rfl,hb2⟩;have HS2:=Qf (HSz.out.below hb2);obtain⟨k0,k1,k2,k3,k4,h0,h1,h2,h3,h4⟩:=HS2.out.cells;go_wp2_with fail;go_meet;exact Qf (HS2.out.set_ p z most e)
   case rest=>
   have HSe:Hid (SAt w wc B (some ⟨ab,0,none⟩) N N p z most e):=hcut;clear c0 c1 c2 c3 c4 f0 f1 f2 f3 f4;clear HSr HFr HOr HVr HUr;obtain⟨c0,c1,c2,c3,c4,f0,f1,f2,f3,f4⟩:=HSe.out.cells;obtain⟨d0,d1,d2,d3,d4,g0,g1,g2,g3,g4⟩:=HSe.out.res;go_wp2_with fail
   (try simp only[Exit.inBlock,Exit.then])
   refine bodyPost_ret (K4 rfl rfl (HSe.out.ret _ _ _ p z most e).1) rfl ?_;unfold Jw;exact⟨p,e,[],0,none,none,0,0,0,rfl,HLf,by omega,by have:=Hq0.out;omega,Qf (fun h=>absurd h heX),(HSe.out.ret _ _ _ p z most e).2⟩
 have de6:((e6:Int)==0)=false:=by simp;omega
 have de6b:((e6:Int)!=0)=true:=by simp;omega
 have heX:=he6;have HLf:Hid (LR s RES p z e6 (f ([],0))):=HL6.out.moved he6;clear HL6 he6;obtain⟨d0,d1,d2,d3,d4,g0,g1,g2,g3,g4⟩:=HS8.out.res;go_wp2_with fail
 (try simp only[Exit.inBlock,Exit.then])
 refine bodyPost_ret (K4 rfl rfl (HS8.out.ret _ _ _ p z most e6).1) rfl ?_;unfold Jw;exact⟨p,e6,[],0,none,none,0,0,0,rfl,HLf,by omega,by have:=Hq0.out;omega,Qf (fun h=>absurd h heX),(HS8.out.ret _ _ _ p z most e6).2⟩
end Go.Proofs.YthehocmfpoglgaaGreat
