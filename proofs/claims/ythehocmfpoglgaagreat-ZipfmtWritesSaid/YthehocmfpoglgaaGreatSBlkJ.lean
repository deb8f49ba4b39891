/- The document's Blocks. Printed by gen_sblk.py. Conditions: texts of at most 12500 bytes. -/
import Derived.Test.YthehocmfpoglgaaGreatJfahffd
import Derived.Test.YthehocmfpoglgaaGreatRBlkJ
import Derived.Test.YthehocmfpoglgaaGreatJlflblb
namespace Go.Proofs.YthehocmfpoglgaaGreat
open Go.RowKit
set_option maxRecDepth 100000
def YnO (e e' p p' k v:Nat):Prop:=(e'=0->e=0/\p'=p+k)/\(e' ≠ 0->v=0)
theorem YhN (a:Option Addr) (cap:Nat) (s:ByteArray) (hs:s.size<=100000) (p z most e k:Nat) (hk:k<=16) (hp:p<=1000000) {β:Type} (RES:Rs β) (f:Nat->Sg->Rs β) (hL:LR s RES p z e (fun σ=>Yc (Yy k σ) f))
 (w:World) (hb:BRow w a (8*s.size) (num s)) :
 Calls Tryz.prog 79 #[SnV a (8*s.size) cap p z most e,.int .i64 (k:Int)] w fun r w'=>∃p' v e':Nat,r=.returned (.tuple #[SnV a (8*s.size) cap p' z most e',.int .i64 (v:Int)])/\Hid (LR s RES p' z e' (f v))/\v<2^k/\p<=p'/\p'<=p+k/\YnO e e' p p' k v/\Below w.heap.size w w':=by
 obtain⟨N,HN⟩:=Qi (8*s.size)
 have hNl:N<=800000:=by have:=HN.out;omega
 have HV:Hid (num s<2^N):=by
  show _<_;rw[<-HN.out];have:=Uj s.data.toList;rw[show s.data.toList.length=s.size by simp,Xw] at this;exact this
 rw[HN.out] at hb ⊢;have hbb:∀(A B:Array Value),Below w.heap.size w ((w.alloc (.cells A 149)).alloc (.cells B 149)):=fun A B=>((Below.refl w.heap.size w).alloc (Qa _) _).alloc (by simp) _;have hB:∀(A B:Array Value),Blk ((w.alloc (.cells A 149)).alloc (.cells B 149)) (w.heap.size+1) 149 B:=fun A B=>heap_alloc2_new w _ _;have Hb:=Qf hbb;have HB:=Qf hB;have HR:=Qf hb;have HL:=Qf hL;clear hbb hB hb hL;by_cases he:e=0
 . subst he
   by_cases hlt:N<p+k
   . have d1:decide ((N:Int)<(p:Int)+(k:Int))=true:=Qg (by omega)
     have HL2:Hid (LR s RES p z 6 (f 0)):=by
      have h:=LR.bits HL.out;have e1:Y5 s p k 0=6:=(by unfold Y5;rw[HN.out,if_pos hlt];rfl);rw[e1] at h;exact h.moved (by decide)
     clear hlt HL;unfold SnV SnC;go_enter Tryz.func79,Tryz.ntmps79;go_wp2_with fail
     (try simp only[Exit.inBlock,Exit.then])
     refine bodyPost_ret (Y8 rfl rfl (HB.out _ _)) rfl ?_;exact⟨p,0,6,rfl,HL2,Nat.two_pow_pos k,Qa _,by omega,⟨fun h=>absurd h (by decide),fun _=>rfl⟩,Hb.out _ _⟩
   have d1:decide ((N:Int)<(p:Int)+(k:Int))=false:=Qh (by omega);have hNk:p+k<=N:=by omega
   obtain⟨v,Hv⟩:=Qi (YI s p k)
   have HL2:Hid (LR s RES (p+k) z 0 (f v)):=by
    have h:=LR.bits HL.out;have e1:Y5 s p k 0=0:=(by unfold Y5;rw[HN.out,if_neg hlt]);rw[e1,Hv.out] at h;exact h
   have hvl:v<2^k:=by rw[<-Hv.out];exact Nat.mod_lt _ (Nat.two_pow_pos k)
   have hv2:v<65536:=Qb hvl (Qe (Nat.pow_le_pow_right (by decide) hk) (by decide))
   have CN:Hid (∀A B:Array Value,Calls Tryz.prog 102 #[.slice a N cap,.int .i64 (p:Int),.int .i64 (k:Int),.bool false] ((w.alloc (.cells A 149)).alloc (.cells B 149)) fun e w'=>e=.returned (.int .u32 (v:Int))/\((w.alloc (.cells A 149)).alloc (.cells B 149))=w'):=by
    refine Qf fun A B=>?_;have:=K7 a N cap (num s) (by omega) HV.out p k (by omega) (by omega) false _ (HR.out.below (Hb.out A B) (Qa _));rw[Kw,show num s/2^p%2^k=v from Hv.out] at this;exact this
   have hvw:IntKind.i64.wrap (v:Int)=(v:Int):=IntWalk.i64_in _ (by omega);clear hlt HL;unfold SnV SnC;go_enter Tryz.func79,Tryz.ntmps79;go_wp2_with fail;refine(CN.out _ _).mono ?_;rintro r w1 ⟨rfl,rfl⟩;go_wp2_with fail
   (try simp only[Exit.inBlock,Exit.then])
   refine bodyPost_ret (Y8 rfl rfl (HB.out _ _)) rfl ?_;exact⟨p+k,v,0,rfl,HL2,hvl,by omega,Qa _,⟨fun _=>⟨rfl,rfl⟩,fun h=>absurd rfl h⟩,Hb.out _ _⟩
 have de:((e:Int)==0)=false:=by simp;omega
 have HL2:Hid (LR s RES p z e (f 0)):=HL.out.moved he;have he2:e ≠ 0:=he;clear HL he;unfold SnV SnC;go_enter Tryz.func79,Tryz.ntmps79;go_wp2_with fail
 (try simp only[Exit.inBlock,Exit.then])
 refine bodyPost_ret (Y8 rfl rfl (HB.out _ _)) rfl ?_;exact⟨p,0,e,rfl,HL2,Nat.two_pow_pos k,Qa _,by omega,⟨fun h=>absurd h he2,fun _=>rfl⟩,Hb.out _ _⟩
theorem Kd {w wt:World} {B n cap p z most e R:Nat} {a:Option Addr} (h:Rch B R w wt):Rch B R w (setS wt B a n cap p z most e):=
 h.trans (((((Rch.set_ 0 _).trans (Rch.set_ 1 _)).trans (Rch.set_ 2 _)).trans (Rch.set_ 3 _)).trans (Rch.set_ 4 _))
theorem YlZ {w wt:World} {B K:Nat} (h:Rch B B w wt) (hK:w.heap.size<=K) (i:Nat) (v:Value):Rch B B w (wt.setCell ⟨K,i,none⟩ v):=
 ⟨h.1,h.2.1,h.2.2.1,by simpa [World.setCell] using h.2.2.2.1,fun g hg h1 h2=>(heap_setCell_other wt _ _ _ (fun e=>by have e2:g=K:=e;omega)).trans (h.2.2.2.2 g hg h1 h2)⟩
theorem Ym6 {R P:Nat} {w:World} (i:Nat) (v:Value):Rch R P w (w.setCell ⟨P,i,none⟩ v):=⟨rfl,rfl,rfl,by simp[World.setCell],fun g _ _ h2=>heap_setCell_other w _ _ _ (fun e=>h2 (by rw[e]))⟩
theorem Yfo {w w':World} {B n V:Nat} {P:Nat} (h:BRow w (some ⟨P,0,none⟩) n V) (hc:Rch B B w w') (hn:n=0\/P ≠ B):BRow w' (some ⟨P,0,none⟩) n V:=by
 rcases h with h|⟨b,off,e,h2,h3⟩
 . exact .inl h
 rcases hn with hn|hn
 . exact .inl hn
 injection e with e;injection e with e1 e2;subst e1 e2;exact .inr ⟨P,0,rfl,Qb h2 hc.2.2.2.1,fun i hi=>(World.cell?_of_block (a:=⟨P,0+i,none⟩) (hc.2.2.2.2 P h2 hn hn)).trans (h3 i hi)⟩
structure RW (wr W:World) (B P N:Nat) (V K p z most e kd:Nat) (by_:ByteArray) (tv:Value):Prop where
 rch:Rch B B wr W
 sn:Blk W B 149 (SnC (some ⟨P,0,none⟩) N N p z most e)
 kb:Blk W K 105 #[.int .i64 (kd:Int),.string by_,tv]
 br:BRow W (some ⟨P,0,none⟩) N V
 lo:wr.heap.size<=K
 bk:B<wr.heap.size
 pn:N=0\/P ≠ B
section
variable {wr W W':World} {B P N V K p z most e kd:Nat} {by_:ByteArray} {tv:Value}
theorem RW.below (h:RW wr W B P N V K p z most e kd by_ tv) (hb:Below W.heap.size W W'):RW wr W' B P N V K p z most e kd by_ tv:=
 ⟨h.rch.trans (Rch.below hb (Qa _)),h.sn.below hb h.sn.lt,h.kb.below hb h.kb.lt,h.br.below hb (Qa _),h.lo,h.bk,h.pn⟩
theorem RW.set (h:RW wr W B P N V K p z most e kd by_ tv) (p' z' e':Nat):RW wr (setS W B (some ⟨P,0,none⟩) N N p' z' most e') B P N V K p' z' most e' kd by_ tv:=by
 have hKB:K ≠ B:=by have:=h.lo;have:=h.bk;omega
 exact⟨Kd h.rch,YbL h.sn,YX h.kb hKB,Yfo h.br (Kd (Rch.refl W)) h.pn,h.lo,h.bk,h.pn⟩
theorem Yk2 {w:World} {K n V':Nat} {P:Nat} (h:BRow w (some ⟨P,0,none⟩) n V') (hn:n=0\/P ≠ K) (i:Nat) (v:Value):BRow (w.setCell ⟨K,i,none⟩ v) (some ⟨P,0,none⟩) n V':=
 Yfo (B:=K) h (Rch.set_ i v) hn
theorem RW.setK (h:RW wr W B P N V K p z most e kd by_ tv) (hp:N=0\/P ≠ K) (i:Nat) (v:Value):Blk (W.setCell ⟨K,i,none⟩ v) K 105 ((#[.int .i64 (kd:Int),.string by_,tv]:Array Value).setIfInBounds i v)/\Rch B B wr (W.setCell ⟨K,i,none⟩ v)/\Blk (W.setCell ⟨K,i,none⟩ v) B 149 (SnC (some ⟨P,0,none⟩) N N p z most e)/\BRow (W.setCell ⟨K,i,none⟩ v) (some ⟨P,0,none⟩) N V:=by
 have hKB:B ≠ K:=by have:=h.lo;have:=h.bk;omega
 exact⟨h.kb.set_ i v,YlZ h.rch h.lo i v,h.sn.far (p:=⟨K,i,none⟩) hKB v,Yk2 h.br hp i v⟩
theorem RW.kind (h:RW wr W B P N V K p z most e kd by_ tv) (hp:N=0\/P ≠ K) (k:Nat):RW wr (W.setCell ⟨K,0,none⟩ (.int .i64 (k:Int))) B P N V K p z most e k by_ tv:=by
 obtain⟨h1,h2,h3,h4⟩:=h.setK hp 0 (.int .i64 (k:Int));exact⟨h2,h3,h1,h4,h.lo,h.bk,h.pn⟩
theorem RW.text (h:RW wr W B P N V K p z most e kd by_ tv) (hp:N=0\/P ≠ K) (x:ByteArray):RW wr (W.setCell ⟨K,1,none⟩ (.string x)) B P N V K p z most e kd x tv:=by
 obtain⟨h1,h2,h3,h4⟩:=h.setK hp 1 (.string x);exact⟨h2,h3,h1,h4,h.lo,h.bk,h.pn⟩
theorem RW.toks (h:RW wr W B P N V K p z most e kd by_ tv) (hp:N=0\/P ≠ K) (x:Value):RW wr (W.setCell ⟨K,2,none⟩ x) B P N V K p z most e kd by_ x:=by
 obtain⟨h1,h2,h3,h4⟩:=h.setK hp 2 x;exact⟨h2,h3,h1,h4,h.lo,h.bk,h.pn⟩
theorem RW.cells (h:RW wr W B P N V K p z most e kd by_ tv):W.cell? ⟨B,0,none⟩=some (.slice (some ⟨P,0,none⟩) N N)/\W.cell? ⟨B,1,none⟩=some (.int .i64 (p:Int))/\W.cell? ⟨B,2,none⟩=some (.int .i64 (z:Int))/\W.cell? ⟨B,3,none⟩=some (.int .i64 (most:Int))/\W.cell? ⟨B,4,none⟩=some (.int .i64 (e:Int))/\
 W.frozen? ⟨B,0,none⟩=false/\W.frozen? ⟨B,1,none⟩=false/\W.frozen? ⟨B,2,none⟩=false/\W.frozen? ⟨B,3,none⟩=false/\W.frozen? ⟨B,4,none⟩=false:=
 ⟨h.sn.cell 0,h.sn.cell 1,h.sn.cell 2,h.sn.cell 3,h.sn.cell 4,h.sn.frozen 0,h.sn.frozen 1,h.sn.frozen 2,h.sn.frozen 3,h.sn.frozen 4⟩
theorem RW.kcells (h:RW wr W B P N V K p z most e kd by_ tv):W.cell? ⟨K,0,none⟩=some (.int .i64 (kd:Int))/\W.cell? ⟨K,1,none⟩=some (.string by_)/\W.cell? ⟨K,2,none⟩=some tv/\
 W.frozen? ⟨K,0,none⟩=false/\W.frozen? ⟨K,1,none⟩=false/\W.frozen? ⟨K,2,none⟩=false:=
 ⟨h.kb.cell 0,h.kb.cell 1,h.kb.cell 2,h.kb.frozen 0,h.kb.frozen 1,h.kb.frozen 2⟩
end
theorem BR.done {most:Nat} {u:ByteArray} {RES:Rs (List Bk)} {p p' z' e' t f:Nat} {bs:List Bk} {bk:Bk} (h:LR u RES p' z' e' (Xb most f bs (t,bk))) (hf:8*u.size-p<f+1) (hp:e'=0->p<p') (hz:e'=0->z'<=most):BR most u RES p' z' e' t (bs++[bk]):=by
 rcases h with⟨h0,h1,h2⟩|h
 . refine .inl ⟨h0,h1,hz h0,?_⟩
   unfold Xb at h2;have h3:=hp h0;by_cases ht:t=0
   . rw[if_pos ht] at h2
     exact .inl ⟨ht,f,by omega,h2⟩
   rw[if_neg ht] at h2;exact .inr ⟨ht,h2.symm⟩
 exact .inr h
theorem YcT {t:TypeId} {w:World} {base n c:Nat} {a:Option Addr} {S:List Tok} (h:OwnK t w base (.slice a n c) S):∀b off sp,a=some ⟨b,off,sp⟩->base<=b:=by
 intro b off sp e;exact((World.ownsRow.lt h) b (by rw[e];rfl)).1
theorem YnM (most t:Nat) (σ:Sg) (E:Nat × Bk->Sg->Rs (List Bk)):Yc (Y4 most t 0 σ) E=Yc (Vz most σ) (fun s σ3=>E (t,⟨0,s,[]⟩) σ3):=by
 unfold Y4;rw[if_pos rfl,Yi];rfl
theorem YnL (most t:Nat) (σ:Sg) (E:Nat × Bk->Sg->Rs (List Bk)):Yc (Y4 most t 1 σ) E=Yc (Vc fixL 288 (fun _=>5) 32 most σ) (fun S σ3=>E (t,⟨1,[],S⟩) σ3):=by
 unfold Y4;rw[if_neg (by decide),if_pos rfl,Yi];rfl
noncomputable def dynC (most t:Nat) (E:Nat × Bk->Sg->Rs (List Bk)) (l:List Nat × Nat) (σ3:Sg):Rs (List Bk):=Yc (Vc (lenF (l.1.take l.2)) l.2 (lenF (l.1.drop l.2)) (l.1.length-l.2) most σ3) (fun S σ4=>E (t,⟨2,[],S⟩) σ4)
theorem YnK (most t:Nat) (σ:Sg) (E:Nat × Bk->Sg->Rs (List Bk)):Yc (Y4 most t 2 σ) E=Yc (dynM σ) (dynC most t E):=by
 unfold Y4;rw[if_neg (by decide),if_neg (by decide),if_pos rfl,Yi]
 congr 1
 funext l σ3;rw[Yi];rfl
theorem YnJ (most t k:Nat) (σ:Sg) (E:Nat × Bk->Sg->Rs (List Bk)) (h0:k ≠ 0) (h1:k ≠ 1) (h2:k ≠ 2):Yc (Y4 most t k σ) E=.error 3:=by
 unfold Y4;rw[if_neg h0,if_neg h1,if_neg h2];rfl
def Yla (w:World) (u:ByteArray) (most:Nat) (res:Rs (List Bk)) (r:Ending) (w':World):Prop:=
 Below w.heap.size w w'/\((∃e,e ≠ 0/\res=.error e/\r=.returned (.tuple #[.slice none 0 0,.int .i64 0,.int .i64 (e:Int)]))\/
  (∃l p z v BB,res=.ok (l.map LBk.b,sg u p z)/\p<=8*u.size/\z<=most/\r=.returned (.tuple #[v,.int .i64 (((p+7)/8:Nat):Int),.int .i64 0])/\w.heap.size<=BB/\BSr w BB v l w'))
theorem Ue {w w':World} {n V' BB:Nat} {P:Nat} (h:BRow w (some ⟨P,0,none⟩) n V') (hb:Below BB w w') (hn:n=0\/P<BB):BRow w' (some ⟨P,0,none⟩) n V':=by
 rcases h with h|⟨b,off,e,h2,h3⟩
 . exact .inl h
 rcases hn with hn|hn
 . exact .inl hn
 injection e with e;injection e with e1 e2;subst e1 e2;exact .inr ⟨P,0,rfl,Qb h2 hb.size,fun i hi=>(hb.cell (p:=⟨P,0+i,none⟩) hn).trans (h3 i hi)⟩
theorem Yk0 {w0 wt:World} {BB:Nat} {v:Value} {l:List LBk} (h:BSr w0 BB v l wt):BSr w0 BB v l wt.drew:=⟨h.own,h.tk,h.far,Yh h.bel 1,h.sz⟩
set_option maxHeartbeats 64000000 in
theorem Ygb (s:ByteArray) (hs:s.size<=12500) (q most:Nat) (hq:q<=s.size) (hm:most<=65536) (w:World) :
 Calls Tryz.prog 54 #[.string s,.int .i64 (q:Int),.int .i64 (most:Int)] w (Yla w (s.extract q s.size) most (VJ most (8*(s.extract q s.size).size+1) (sg (s.extract q s.size) 0 0) [])):=by
 have d1:decide ((q:Int)<0)=false:=Qh (by omega);obtain⟨d2,d2b⟩:=Ql (show q<=s.size by omega);have d3:decide ((most:Int)<0)=false:=Qh (by omega);have d4:decide ((65536:Int)<(most:Int))=false:=Qh (by omega);have d4b:decide (65536<most)=false:=Qh (by omega);have hqI:(q:Int)<=(s.size:Int)/\0<=(q:Int):=by omega
 have hus:(s.extract q s.size).size<=12500:=by rw[ByteArray.size_extract];omega
 obtain⟨u,Hu⟩:=Qi (s.extract q s.size);have CO:=YlR (s.extract q s.size) (by omega) w;rw[Hu.out] at hus CO ⊢;obtain⟨RES,HRES⟩:=Qi (VJ most (8*u.size+1) (sg u 0 0) []);rw[HRES.out];have hu:=Hu.out;have HCO:=Qf CO;have HBR0:Hid (BR most u RES 0 0 0 0 []):=.inl ⟨rfl,by omega,by omega,.inl ⟨rfl,_,by omega,HRES.out⟩⟩;obtain⟨P,HP⟩:=Qi (w.heap.size);rw[HP.out] at HCO;obtain⟨N,HN⟩:=Qi (8*u.size);rw[HN.out] at HCO;clear CO HRES;go_enter Tryz.func54,Tryz.ntmps54;go_wp2_with fail
 (try rw[hu])
 refine HCO.out.mono ?_;rintro r w1 ⟨rfl,hbr,hb1⟩;have HBr:=Qf hbr
 have HPB:Hid (N=0\/P<w1.heap.size):=by
  show _\/_;rcases hbr with h|⟨b,off,e,hb,_⟩
  . exact .inl h
  injection e with e;injection e with e1;exact .inr (by rw[e1];exact hb)
 have HB1:Hid (Below w.heap.size w w1):=by show Below _ _ _;rw[HP.out];exact hb1
 clear hbr hb1 HCO;go_upto_region 5 with(fail);have hbl:=((Below.refl w1.heap.size w1).alloc (Qa _) (.cells (SnC (some ⟨P,0,none⟩) N N 0 0 most 0) 149)).alloc (by simp) (.cells #[] 105);have hX0:=(Blk.new w1 149 (SnC (some ⟨P,0,none⟩) N N 0 0 most 0)).alloc (.cells #[] 105);have hO0:=World.ownsRow_made (base:=w1.heap.size+1) (e:=105) (size:=3) (w1.alloc (.cells (SnC (some ⟨P,0,none⟩) N N 0 0 most 0) 149)) #[] 0 (by simp) (Nat.zero_le _) rfl;have hsz:(w1.alloc (.cells (SnC (some ⟨P,0,none⟩) N N 0 0 most 0) 149)).heap.size=w1.heap.size+1:=by simp
 rw[hsz] at hO0;have HBr2:Hid (BRow ((w1.alloc (.cells (SnC (some ⟨P,0,none⟩) N N 0 0 most 0) 149)).alloc (.cells #[] 105)) (some ⟨P,0,none⟩) N (num u)):=Qf (BRow.below HBr.out hbl (Qa _));have HB2:=Qf (HB1.out.trans (hbl.mono HB1.out.size));have HX0:=Qf hX0;have HO0:=Qf hO0;have hw1:w.heap.size<=w1.heap.size:=HB1.out.size;clear hbl hX0 hO0 hsz HBr HB1;unfold SnC at HX0 HO0 HBr2 HB2;obtain⟨w2,Hw2⟩:=Qi ((w1.alloc (.cells #[.slice (some ⟨P,0,none⟩) N N,.int .i64 ((0:Nat):Int),.int .i64 ((0:Nat):Int),.int .i64 (most:Int),.int .i64 ((0:Nat):Int)] 149)).alloc (.cells #[] 105));rw[Hw2.out] at HX0 HO0 HBr2 HB2;have Hw2':(w1.alloc (.cells #[.slice (some ⟨P,0,none⟩) N N,.int .i64 0,.int .i64 0,.int .i64 (most:Int),.int .i64 0] 149)).alloc (.cells #[] 105)=w2:=Hw2.out;rw[Hw2'];obtain⟨B,HB⟩:=Qi (w1.heap.size);obtain⟨BB,HBB⟩:=Qi (B+1);rw[HB.out] at HX0 HO0 hw1;rw[HBB.out] at HO0
 try rw[HB.out]
 try rw[HBB.out]
 have hBBB:B<BB:=by have:=HBB.out;omega
 rw[HB.out] at HPB;have HS0:Hid (BSr w BB (.slice (some ⟨BB,0,none⟩) 0 0) [] w2):=⟨HO0.out,(fun x hx=>by cases hx),(fun x hx=>by cases hx),HB2.out,Nat.le_of_lt ((World.ownsRow.lt HO0.out) BB rfl).2⟩;clear Hw2 Hw2' HO0 d1 d2 d2b d3 d4 d4b hqI;have HXr:=Qf HX0.out;have hBw2:Hid (B<w2.heap.size):=HX0.out.lt;go_wp2_with fail
 go_loopw [10,11] (fun v_ t_ wr=>∃(p z e t:Nat) (l:List LBk),t_=.int .i64 (t:Int)/\Hid (e=0->l.length<=p)/\Hid (Blk wr B 149 (SnC (some ⟨P,0,none⟩) N N p z most e))/\Hid (BSr w BB v_ l wr)/\Hid (BRow wr (some ⟨P,0,none⟩) N (num u))/\Hid (BR most u RES p z e t (l.map LBk.b))) (fun _ _ wr=>if Ym wr ⟨B,4,none⟩=0 then 8*u.size+2-Ym wr ⟨B,1,none⟩ else 0)
 case atStart=>exact⟨0,0,0,0,[],rfl,Qf (fun _=>Qa _),HX0,HS0,HBr2,HBR0⟩
 clear HX0 HS0 HBr2 HB2 HBR0 HXr;obtain⟨p,z,e,t,l,rfl,Hlp,HX,HS,HBr,HBR⟩:=hrel;obtain⟨c0,c1,c2,c3,c4⟩:wr.cell? ⟨B,0,none⟩=some (.slice (some ⟨P,0,none⟩) N N)/\wr.cell? ⟨B,1,none⟩=some (.int .i64 (p:Int))/\wr.cell? ⟨B,2,none⟩=some (.int .i64 (z:Int))/\wr.cell? ⟨B,3,none⟩=some (.int .i64 (most:Int))/\wr.cell? ⟨B,4,none⟩=some (.int .i64 (e:Int)):=⟨HX.out.cell 0,HX.out.cell 1,HX.out.cell 2,HX.out.cell 3,HX.out.cell 4⟩;have hwBB:w.heap.size<=BB:=by omega
 by_cases he:e=0
 . have d4:((e:Int)==0)=true:=by simp;omega
   have d4b:(e==0)=true:=by simp;omega
   by_cases ht:t=0
   . have d5:((t:Int)==0)=true:=by simp;omega
     have d5b:(t==0)=true:=(by simp;omega);have hBR:=HBR.out;rw[he,ht] at hBR;obtain⟨hp8,hzm,f,hf,hL0⟩:=hBR.step;have hlp:=Hlp.out he;have hp8N:p<=100000:=(by omega);have Hhf:=Qf hf;have HL0:=Qf hL0;have Hp8:=Qf hp8;have hl1:l.length<=100000:=Qe hlp hp8N;have Hlp2:=Qf hlp;obtain⟨M0,HM0⟩:=Qi (8*u.size+2-p)
     have Hcm0:Hid ((if Ym wr ⟨B,4,none⟩=0 then 8*u.size+2-Ym wr ⟨B,1,none⟩ else 0)=M0):=by
      show _=_;rw[Yf (n:=p) c1,Yf (n:=e) c4,if_pos he,HM0.out]
     have he2:Hid (e=0):=he;clear hBR hL0 hf hlp he ht HBR Hlp;have hbA:=(Below.refl wr.heap.size wr).alloc (Qa _) (.cells #[.int .i64 0,.string ⟨#[]⟩,.slice none 0 0] 105);have hbnew:=Blk.new wr 105 #[.int .i64 0,.string ⟨#[]⟩,.slice none 0 0];have hPB1:N=0\/P ≠ B:=HPB.out.imp id (fun h=>by omega);have hKg:wr.heap.size<=wr.heap.size:=Qa _;obtain⟨wA,HwA⟩:=Qi (wr.alloc (.cells #[.int .i64 0,.string ⟨#[]⟩,.slice none 0 0] 105))
     have HRA:Hid (RW wr wA B P N (num u) wr.heap.size p z most e 0 ⟨#[]⟩ (.slice none 0 0)):=by
      show RW _ _ _ _ _ _ _ _ _ _ _ _ _ _;rw[<-HwA.out];exact⟨Rch.below hbA (Qa _),HX.out.below hbA HX.out.lt,hbnew,HBr.out.below hbA (Qa _),Qa _,HX.out.lt,hPB1⟩
     obtain⟨K,HK⟩:=Qi (wr.heap.size);rw[HK.out] at HRA;have hPK:N=0\/P ≠ K:=HPB.out.imp id (fun h=>by have:=HK.out;have:=HX.out.lt;omega)
     have hKB:K ≠ B:=by have:=HK.out;have:=HX.out.lt;omega
     have hBK:B ≠ K:=Ne.symm hKB;have HPK:=Qf hPK;have hwAs:wr.heap.size<wA.heap.size:=(by rw[<-HwA.out];simp);have HwAs:=Qf hwAs;clear hbA hbnew hPB1 hKg hPK hwAs c0 c1 c2 c3;go_upto_region 8 with(fail);rw[HwA.out]
     (try rw[HK.out])
     have CN:=Qf (fun (p e:Nat) (k:Nat) (hk:k<=16) (hp:p<=1000000) (f:Nat->Sg->Rs (List Bk)) (hL:LR u RES p z e (fun σ=>Yc (Yy k σ) f)) (W:World) (hW:BRow W (some ⟨P,0,none⟩) N (num u))=>YhN (some ⟨P,0,none⟩) N u (by omega) p z most e k hk hp RES f hL W (by rw[HN.out];exact hW));rw[HN.out] at CN;unfold SnV SnC at CN
     have hL0':LR u RES p z e (fun σ=>Yc (Yy 1 σ) fun last σ1=>Yc (Yy 2 σ1) fun k σ2=>Yc (Y4 most last k σ2) (Xb most f (l.map LBk.b))):=by
      rw[he2.out];exact HL0.out
     have C1:=Qf (CN.out p e 1 (by decide) (by omega) _ hL0' wA HRA.out.br);clear hL0' HL0 c4 d4 d4b d5 d5b;obtain⟨c0,c1,c2,c3,c4,n0,n1,n2,n3,n4⟩:=HRA.out.cells;obtain⟨k0,k1,k2,m0,m1,m2⟩:=HRA.out.kcells;go_wp2_with fail;refine C1.out.mono ?_;rintro r wB ⟨p1,t1,e1,rfl,HL1,hv1,hpp1,hpp1',hok1,hb1⟩;have Hok1:=Qf hok1;have HRB:=Qf (HRA.out.below hb1);have hB1s:=hb1.size;have HBs:=Qf (Qb HwAs.out hB1s);clear hok1 hb1 hB1s HRA C1 c0 c1 c2 c3 c4 n0 n1 n2 n3 n4 k0 k1 k2 m0 m1 m2 HwAs;obtain⟨c0,c1,c2,c3,c4,n0,n1,n2,n3,n4⟩:=HRB.out.cells;go_upto_region 9 with(fail);change Code.wp _ _ _ _ (setS wB B (some ⟨P,0,none⟩) N N p1 z most e1);obtain⟨wC,HwC⟩:=Qi (setS wB B (some ⟨P,0,none⟩) N N p1 z most e1)
     have HRC:Hid (RW wr wC B P N (num u) K p1 z most e1 0 ⟨#[]⟩ (.slice none 0 0)):=by
      show RW _ _ _ _ _ _ _ _ _ _ _ _ _ _;rw[<-HwC.out];exact HRB.out.set p1 z e1
     have HCs:Hid (wr.heap.size<wC.heap.size):=(by show _<_;rw[<-HwC.out];unfold setS;simpa [World.setCell] using HBs.out);rw[HwC.out];clear HwC HRB HBs c0 c1 c2 c3 c4 n0 n1 n2 n3 n4;obtain⟨c0,c1,c2,c3,c4,n0,n1,n2,n3,n4⟩:=HRC.out.cells;obtain⟨k0,k1,k2,m0,m1,m2⟩:=HRC.out.kcells;have C2:=Qf (CN.out p1 e1 2 (by decide) (by omega) _ HL1.out wC HRC.out.br);clear HL1 CN;go_wp2_with fail;refine C2.out.mono ?_;rintro r wD ⟨p2,kd,e2,rfl,HL2,hv2,hpp2,hpp2',hok2,hb2⟩;have hv4:kd<4:=hv2;have Hok2:=Qf hok2
     have Hpp:Hid (e2=0->p<p2):=fun h=>by
      have h1:=Hok2.out.1 h;have h2:=Hok1.out.1 h1.1;omega
     have HRD:=Qf (HRC.out.below hb2);have HDs:=Qf (Qb HCs.out hb2.size);have Hkz:Hid (e2 ≠ 0->kd=0):=Hok2.out.2;clear hok2 hb2 hv2 HRC HCs C2 Hok1 Hok2 c0 c1 c2 c3 c4 n0 n1 n2 n3 n4 k0 k1 k2 m0 m1 m2;obtain⟨c0,c1,c2,c3,c4,n0,n1,n2,n3,n4⟩:=HRD.out.cells;obtain⟨k0,k1,k2,m0,m1,m2⟩:=HRD.out.kcells;go_upto_region 10 with(fail);change Code.wp _ _ _ _ ((setS wD B (some ⟨P,0,none⟩) N N p2 z most e2).setCell ⟨K,0,none⟩ (.int .i64 (kd:Int)));obtain⟨wE,HwE⟩:=Qi ((setS wD B (some ⟨P,0,none⟩) N N p2 z most e2).setCell ⟨K,0,none⟩ (.int .i64 (kd:Int)))
     have HRE:Hid (RW wr wE B P N (num u) K p2 z most e2 kd ⟨#[]⟩ (.slice none 0 0)):=by
      show RW _ _ _ _ _ _ _ _ _ _ _ _ _ _;rw[<-HwE.out];exact(HRD.out.set p2 z e2).kind HPK.out kd
     have HEs:Hid (wr.heap.size<wE.heap.size):=(by show _<_;rw[<-HwE.out];unfold setS;simpa [World.setCell] using HDs.out);rw[HwE.out];clear HwE HRD HDs c0 c1 c2 c3 c4 n0 n1 n2 n3 n4 k0 k1 k2 m0 m1 m2;obtain⟨c0,c1,c2,c3,c4,n0,n1,n2,n3,n4⟩:=HRE.out.cells;obtain⟨k0,k1,k2,m0,m1,m2⟩:=HRE.out.kcells;have hp2:p2<=100003:=(by omega);have hwBB:w.heap.size<=BB:=(by omega);have HPB2:Hid (N=0\/P<BB):=HPB.out.imp id (fun h=>by omega);clear hpp1 hpp1' hpp2' ;by_cases he2':e2=0
     . by_cases hkd:kd=0
       . have hk0:Hid (kd=0):=hkd
         have e0:((kd:Int)==0)=true:=by simp;omega
         have hL3:LR u RES p2 z e2 (fun σ=>Yc (Vz most σ) (fun s σ3=>Xb most f (l.map LBk.b) (t1,⟨0,s,[]⟩) σ3)):=by
          have h:=HL2.out;rw[hk0.out] at h;simp only[YnM] at h;exact h
         have CS:=Qf (Yaf P u (by omega) p2 z most e2 (by omega) (by omega) (by omega) RES _ hL3 wE (by rw[HN.out];exact HRE.out.br));rw[HN.out] at CS;unfold SnV SnC at CS;have Hp2:Hid (p<p2):=Hpp.out he2';clear hL3 HL2 hkd he2';go_wp2_with fail;refine CS.out.mono ?_;rintro r wF ⟨p3,z3,e3,lb,rfl,HL3x,hpp3,hz3,hb3⟩;have HRF:=Qf (HRE.out.below hb3);have Hz3:=Qf hz3;have Hpp3:Hid (e3=0->p<p3):=fun _=>Qb Hp2.out hpp3;have HL3:Hid (LR u RES p3 z3 e3 (Xb most f (l.map LBk.b) (t1,⟨0,lb,[]⟩))):=HL3x;clear HL3x;have HFs:=Qf (Qb HEs.out hb3.size);clear hb3 HRE CS HEs hz3 hpp3;clear c0 c1 c2 c3 c4 n0 n1 n2 n3 n4 k0 k1 k2 m0 m1 m2;obtain⟨c0,c1,c2,c3,c4,n0,n1,n2,n3,n4⟩:=HRF.out.cells;obtain⟨k0,k1,k2,m0,m1,m2⟩:=HRF.out.kcells;go_upto_region 22 with(fail);change Code.wp _ _ _ _ ((setS wF B (some ⟨P,0,none⟩) N N p3 z3 most e3).setCell ⟨K,1,none⟩ (.string ⟨lb.toArray⟩));obtain⟨wG,HwG⟩:=Qi ((setS wF B (some ⟨P,0,none⟩) N N p3 z3 most e3).setCell ⟨K,1,none⟩ (.string ⟨lb.toArray⟩))
         have HRG:Hid (RW wr wG B P N (num u) K p3 z3 most e3 kd ⟨lb.toArray⟩ (.slice none 0 0)):=by
          show RW _ _ _ _ _ _ _ _ _ _ _ _ _ _;rw[<-HwG.out];exact(HRF.out.set p3 z3 e3).text HPK.out _
         rw[HwG.out];clear HwG HRF;clear c0 c1 c2 c3 c4 n0 n1 n2 n3 n4 k0 k1 k2 m0 m1 m2;obtain⟨c0,c1,c2,c3,c4,n0,n1,n2,n3,n4⟩:=HRG.out.cells;obtain⟨k0,k1,k2,m0,m1,m2⟩:=HRG.out.kcells;have HLT:Hid (LTk wG BB ⟨⟨0,lb,[]⟩,none,0⟩):=⟨.inl rfl,fun b off sp e=>by cases e⟩
         have HXA:Hid (∀b off sp,(⟨⟨0,lb,[]⟩,none,0⟩:LBk).a=some ⟨b,off,sp⟩->wr.heap.size<=b):=fun b off sp e=>by cases e
         rw[hk0.out] at k0;have HBN:Hid (BR most u RES p3 z3 e3 t1 (l.map LBk.b++[(⟨0,lb,[]⟩:Bk)])):=BR.done (p:=p) HL3.out Hhf.out (fun h=>Hpp3.out h) (fun h=>Hz3.out h);have HSt:=Qf (HS.out.rch HRG.out.rch hBBB hBBB hw1 hw1);have hos:=HSt.out.own;have hbsw:=HSt.out.sz;have hone:=VG 0 ⟨lb.toArray⟩ none 0 0
         have hl3:Hid (e3=0->(l++[(⟨⟨0,lb,[]⟩,none,0⟩:LBk)]).length<=p3):=fun h=>by
          have h1:=Hpp3.out h;have h2:=Hlp2.out;rw[List.length_append];show l.length+1<=p3;omega
         have Hmp3:Hid (e3=0->8*u.size+2-p3<M0):=fun h=>by
          have h1:=Hpp3.out h;have h2:=HM0.out;have h3:=Hp8.out;omega
         have HvA:Hid (∀g,u10.ownBlock=some g->g<wr.heap.size):=fun g h=>(World.ownsRow.lt HS.out.own g h).2
         have HM1:Hid (0<M0):=by
          show 0<M0;have h2:=HM0.out;have h3:=Hp8.out;omega
         have HKl:=Qf (HRG.out.sn);have HKr:=Qf (HRG.out.br)
         go_wp2_with (first
          |(at_builtin;go_must (refine Yd wG rfl (.tmp 106) (.tmp 108) rfl Tryz.underlying100 Kk rfl (by decide) BB u10 l.length (YF l) [.int .i64 0,.string ⟨lb.toArray⟩,.slice none 0 0] hos rfl hone rfl rfl (by first|rfl|simp) ?_ ?_ hbsw ?_;(unfold maxLen;omega);omega;intro v8 w8 hown8 hg8 hn8;have hb8:=Yb hos hg8 hbsw;have HX8:=Qf (HKl.out.below hb8 hBBB);have HR8:Hid (BRow w8 (some ⟨P,0,none⟩) N (num u)):=Ue HKr.out hb8 HPB2.out;have HS8:=Qf (BSr.app (x:=⟨⟨0,lb,[]⟩,none,0⟩) (wa:=wr) HSt.out hwBB hg8 hown8 hn8 HLT.out HvA.out HXA.out);clear hown8 hg8 hb8 hn8 hos hbsw hone))
          |fail)
         have cm8:Ym w8 ⟨B,4,none⟩=e3:=Yf ((Blk.cell HX8.out 4).trans rfl);have Hcm8:=Qf cm8;have cm9:Ym w8 ⟨B,1,none⟩=p3:=Yf ((Blk.cell HX8.out 1).trans rfl);have Hcm9:=Qf cm9;clear cm8 cm9;go_roundw
         case rel=>exact⟨p3,z3,e3,t1,l++[⟨⟨0,lb,[]⟩,none,0⟩],rfl,hl3,HX8,HS8,HR8,(by rw[List.map_append];exact HBN)⟩
         rw[Hcm0.out,Hcm8.out,Hcm9.out];by_cases h3:e3=0
         . rw[if_pos h3];exact Hmp3.out h3
         rw[if_neg h3];exact HM1.out
       by_cases hkd1:kd=1
       . have hkd:=hkd1
         have hk0:Hid (kd=1):=hkd;have e0:((kd:Int)==0)=false:=(by simp;omega);have e1:((kd:Int)==1)=true:=by simp;omega
         have hL3:LR u RES p2 z e2 (fun σ=>Yc (Vc fixL 288 (fun _=>5) 32 most σ) (fun S σ3=>Xb most f (l.map LBk.b) (t1,⟨1,[],S⟩) σ3)):=by
          have h:=HL2.out;rw[hk0.out] at h;simp only[YnL] at h;exact h
         have Hp2:Hid (p<p2):=Hpp.out he2';have CF:=Qf (Yf7 wE);clear HL2 hkd he2';go_wp2_with fail;refine CF.out.mono ?_;rintro r wL ⟨a1,cp1,a2,cp2,rfl,hI1,hI2,hbL⟩;have HRL:=Qf (HRE.out.below hbL);have HLs:=Qf (Qb HEs.out hbL.size);have HI1:=Qf hI1;have HI2:=Qf hI2;clear hbL hI1 hI2 CF HRE HEs;clear c0 c1 c2 c3 c4 n0 n1 n2 n3 n4 k0 k1 k2 m0 m1 m2;obtain⟨c0,c1,c2,c3,c4,n0,n1,n2,n3,n4⟩:=HRL.out.cells;obtain⟨k0,k1,k2,m0,m1,m2⟩:=HRL.out.kcells;have CT:=Qf (Yae fixL 288 (fun i _=>YiV i) (by decide) (fun _=>5) 32 (fun i _=>by omega) (by decide) a1 a2 cp1 cp2 P u (by omega) p2 z most e2 (by omega) (by omega) (fun _=>hzm) (by omega) RES _ hL3 wL (by rw[HN.out];exact HRL.out.br) HI1.out HI2.out);rw[HN.out] at CT;unfold SnV SnC at CT;clear hL3;go_wp2_with fail;refine CT.out.mono ?_;rintro r wF ⟨p3,z3,e3,S,v,rfl,HL3x,HOS,-,-,hpp3,hz3,hb3⟩;have HRF:=Qf (HRL.out.below hb3);have Hz3:=Qf hz3;have Hpp3:Hid (e3=0->p<p3):=fun _=>Qb Hp2.out hpp3;have HL3:Hid (LR u RES p3 z3 e3 (Xb most f (l.map LBk.b) (t1,⟨1,[],S⟩))):=HL3x;obtain⟨ta,tc,rfl,htk⟩:=HOS.out.view;have Haddr:Hid (∀b off sp,ta=some ⟨b,off,sp⟩->wr.heap.size<b):=fun b off sp e=>Qb HLs.out (YcT HOS.out b off sp e);have Htk:=Qf htk;clear HL3x hb3 hz3 hpp3 htk HOS CT;clear c0 c1 c2 c3 c4 n0 n1 n2 n3 n4 k0 k1 k2 m0 m1 m2;obtain⟨c0,c1,c2,c3,c4,n0,n1,n2,n3,n4⟩:=HRF.out.cells;obtain⟨k0,k1,k2,m0,m1,m2⟩:=HRF.out.kcells;go_upto_region 22 with(fail);change Code.wp _ _ _ _ ((setS wF B (some ⟨P,0,none⟩) N N p3 z3 most e3).setCell ⟨K,2,none⟩ (.slice ta S.length tc));have HLT0:Hid (TkRow ((setS wF B (some ⟨P,0,none⟩) N N p3 z3 most e3).setCell ⟨K,2,none⟩ (.slice ta S.length tc)) ta S):=(Htk.out.rch (R:=B) (P:=K) (Kd (Rch.refl wF)) (fun b off sp e=>by have h1:=Haddr.out b off sp e;have h2:=HK.out;have h3:=HRF.out.bk;omega)).rch (R:=B) (P:=K) (Ym6 2 _) (fun b off sp e=>by have h1:=Haddr.out b off sp e;have h2:=HK.out;have h3:=HRF.out.bk;omega);obtain⟨wG,HwG⟩:=Qi ((setS wF B (some ⟨P,0,none⟩) N N p3 z3 most e3).setCell ⟨K,2,none⟩ (.slice ta S.length tc))
         have HRG:Hid (RW wr wG B P N (num u) K p3 z3 most e3 kd ⟨#[]⟩ (.slice ta S.length tc)):=by
          show RW _ _ _ _ _ _ _ _ _ _ _ _ _ _;rw[<-HwG.out];exact(HRF.out.set p3 z3 e3).toks HPK.out _
         rw[HwG.out] at HLT0 ⊢;clear HwG HRF Htk;clear c0 c1 c2 c3 c4 n0 n1 n2 n3 n4 k0 k1 k2 m0 m1 m2;obtain⟨c0,c1,c2,c3,c4,n0,n1,n2,n3,n4⟩:=HRG.out.cells;obtain⟨k0,k1,k2,m0,m1,m2⟩:=HRG.out.kcells;have HLT:Hid (LTk wG BB ⟨⟨1,[],S⟩,ta,tc⟩):=⟨HLT0.out,fun b off sp e=>by have h1:=Haddr.out b off sp e;have h2:=HS.out.sz;omega⟩;have HXA:Hid (∀b off sp,(⟨⟨1,[],S⟩,ta,tc⟩:LBk).a=some ⟨b,off,sp⟩->wr.heap.size<=b):=fun b off sp e=>Nat.le_of_lt (Haddr.out b off sp e);rw[hk0.out] at k0;have HBN:Hid (BR most u RES p3 z3 e3 t1 (l.map LBk.b++[(⟨1,[],S⟩:Bk)])):=BR.done (p:=p) HL3.out Hhf.out (fun h=>Hpp3.out h) (fun h=>Hz3.out h);have HSt:=Qf (HS.out.rch HRG.out.rch hBBB hBBB hw1 hw1);have hos:=HSt.out.own;have hbsw:=HSt.out.sz;have hone:=VG 1 ⟨#[]⟩ ta S.length tc
         have hl3:Hid (e3=0->(l++[(⟨⟨1,[],S⟩,ta,tc⟩:LBk)]).length<=p3):=fun h=>by
          have h1:=Hpp3.out h;have h2:=Hlp2.out;rw[List.length_append];show l.length+1<=p3;omega
         have Hmp3:Hid (e3=0->8*u.size+2-p3<M0):=fun h=>by
          have h1:=Hpp3.out h;have h2:=HM0.out;have h3:=Hp8.out;omega
         have HvA:Hid (∀g,u10.ownBlock=some g->g<wr.heap.size):=fun g h=>(World.ownsRow.lt HS.out.own g h).2
         have HM1:Hid (0<M0):=by
          show 0<M0;have h2:=HM0.out;have h3:=Hp8.out;omega
         have HKl:=Qf (HRG.out.sn);have HKr:=Qf (HRG.out.br)
         go_wp2_with (first
          |(at_builtin;go_must (refine Yd wG rfl (.tmp 106) (.tmp 108) rfl Tryz.underlying100 Kk rfl (by decide) BB u10 l.length (YF l) [.int .i64 1,.string ⟨#[]⟩,.slice ta S.length tc] hos rfl hone rfl rfl (by first|rfl|simp) ?_ ?_ hbsw ?_;(unfold maxLen;omega);omega;intro v8 w8 hown8 hg8 hn8;have hb8:=Yb hos hg8 hbsw;have HX8:=Qf (HKl.out.below hb8 hBBB);have HR8:Hid (BRow w8 (some ⟨P,0,none⟩) N (num u)):=Ue HKr.out hb8 HPB2.out;have HS8:=Qf (BSr.app (x:=⟨⟨1,[],S⟩,ta,tc⟩) (wa:=wr) HSt.out hwBB hg8 hown8 hn8 HLT.out HvA.out HXA.out);clear hown8 hg8 hb8 hn8 hos hbsw hone))
          |fail)
         have cm8:Ym w8 ⟨B,4,none⟩=e3:=Yf ((Blk.cell HX8.out 4).trans rfl);have Hcm8:=Qf cm8;have cm9:Ym w8 ⟨B,1,none⟩=p3:=Yf ((Blk.cell HX8.out 1).trans rfl);have Hcm9:=Qf cm9;clear cm8 cm9;go_roundw
         case rel=>exact⟨p3,z3,e3,t1,l++[⟨⟨1,[],S⟩,ta,tc⟩],rfl,hl3,HX8,HS8,HR8,(by rw[List.map_append];exact HBN)⟩
         rw[Hcm0.out,Hcm8.out,Hcm9.out];by_cases h3:e3=0
         . rw[if_pos h3];exact Hmp3.out h3
         rw[if_neg h3];exact HM1.out
       by_cases hkd2:kd=2
       . have hkd:=hkd2
         have hk0:Hid (kd=2):=hkd;have e0:((kd:Int)==0)=false:=(by simp;omega);have e1:((kd:Int)==1)=false:=(by simp;omega);have e2x:((kd:Int)==2)=true:=by simp;omega
         have hL2:LR u RES p2 z e2 (fun σ=>Yc (dynM σ) (dynC most t1 (Xb most f (l.map LBk.b)))):=by
          have h:=HL2.out;rw[hk0.out] at h;simp only[YnK] at h;exact h
         have Hp2:Hid (p<p2):=Hpp.out he2';have CD:=Qf (YcL P u (by omega) p2 z most e2 (by omega) (by omega) (by omega) RES _ hL2 wE (by rw[HN.out];exact HRE.out.br));rw[HN.out] at CD;unfold SnV SnC at CD;clear hL2 HL2 hkd he2';go_wp2_with fail;refine CD.out.mono ?_;intro r wL hpost;unfold Jw SnV SnC at hpost;obtain⟨p4,e4,ll,na,x1,x2,nb,y1,y2,rfl,HL4,hp4,hpp4,Hrows,hbL⟩:=hpost;have HRL0:=Qf (HRE.out.below hbL);have Hadr:Hid (e4=0->∀b off sp,(x1=some ⟨b,off,sp⟩\/x2=some ⟨b,off,sp⟩)->wr.heap.size<b):=fun h b off sp h2=>Qb HEs.out ((Hrows.out h).2.2.2.2.2.2 b off sp h2);have hal:=(Below.refl wL.heap.size wL).alloc (Qa _) (.cells #[.slice (some ⟨P,0,none⟩) N N,.int .i64 (p4:Int),.int .i64 (z:Int),.int .i64 (most:Int),.int .i64 (e4:Int)] 149);have HRL1:=Qf (HRL0.out.below hal);have hyb:=Blk.new wL 149 #[.slice (some ⟨P,0,none⟩) N N,.int .i64 (p4:Int),.int .i64 (z:Int),.int .i64 (most:Int),.int .i64 (e4:Int)];have Hrows1:Hid (e4=0->IRow (wL.alloc (.cells #[.slice (some ⟨P,0,none⟩) N N,.int .i64 (p4:Int),.int .i64 (z:Int),.int .i64 (most:Int),.int .i64 (e4:Int)] 149)) x1 na (lenF (ll.take na))/\IRow (wL.alloc (.cells #[.slice (some ⟨P,0,none⟩) N N,.int .i64 (p4:Int),.int .i64 (z:Int),.int .i64 (most:Int),.int .i64 (e4:Int)] 149)) x2 nb (lenF (ll.drop na))):=fun h=>⟨(Hrows.out h).1.below hal,(Hrows.out h).2.1.below hal⟩;have Hrows2:Hid (e4=0->na<=288/\nb<=32/\na+nb=ll.length/\∀y ∈ ll,y<=15):=fun h=>⟨(Hrows.out h).2.2.1,(Hrows.out h).2.2.2.1,(Hrows.out h).2.2.2.2.1,(Hrows.out h).2.2.2.2.2.1⟩;have HMs0:Hid (wr.heap.size<(wL.alloc (.cells #[.slice (some ⟨P,0,none⟩) N N,.int .i64 (p4:Int),.int .i64 (z:Int),.int .i64 (most:Int),.int .i64 (e4:Int)] 149)).heap.size):=Qb HEs.out (Qe hbL.size hal.size);obtain⟨wM,HwM⟩:=Qi (wL.alloc (.cells #[.slice (some ⟨P,0,none⟩) N N,.int .i64 (p4:Int),.int .i64 (z:Int),.int .i64 (most:Int),.int .i64 (e4:Int)] 149));rw[HwM.out] at hyb HRL1 Hrows1 HMs0;obtain⟨Y,HY⟩:=Qi (wL.heap.size);rw[HY.out] at hyb;have HYB:=Qf hyb;clear hal hbL Hrows hyb HRL0 HRE HEs CD;clear c0 c1 c2 c3 c4 n0 n1 n2 n3 n4 k0 k1 k2 m0 m1 m2;go_upto_region 19 with(fail);rw[HwM.out]
         (try rw[HY.out])
         clear HwM HY;obtain⟨c0,c1,c2,c3,c4,n0,n1,n2,n3,n4⟩:=HRL1.out.cells;obtain⟨k0,k1,k2,m0,m1,m2⟩:=HRL1.out.kcells;obtain⟨y0,y1',y2',y3,y4⟩:wM.cell? ⟨Y,0,none⟩=some (.slice (some ⟨P,0,none⟩) N N)/\wM.cell? ⟨Y,1,none⟩=some (.int .i64 (p4:Int))/\wM.cell? ⟨Y,2,none⟩=some (.int .i64 (z:Int))/\wM.cell? ⟨Y,3,none⟩=some (.int .i64 (most:Int))/\wM.cell? ⟨Y,4,none⟩=some (.int .i64 (e4:Int)):=⟨HYB.out.cell 0,HYB.out.cell 1,HYB.out.cell 2,HYB.out.cell 3,HYB.out.cell 4⟩;go_upto_region 20 with(fail);change Code.wp _ _ _ _ (setS wM B (some ⟨P,0,none⟩) N N p4 z most e4)
         have Hrows3:Hid (e4=0->IRow (setS wM B (some ⟨P,0,none⟩) N N p4 z most e4) x1 na (lenF (ll.take na))/\IRow (setS wM B (some ⟨P,0,none⟩) N N p4 z most e4) x2 nb (lenF (ll.drop na))):=fun h=>by
          have hr:=Hrows1.out h;have ha:=Hadr.out h;have h3:=HRL1.out.bk;exact⟨hr.1.rch (R:=B) (P:=B) (Kd (Rch.refl wM)) (fun b off sp e=>by have h1:=ha b off sp (.inl e);omega),hr.2.rch (R:=B) (P:=B) (Kd (Rch.refl wM)) (fun b off sp e=>by have h1:=ha b off sp (.inr e);omega)⟩
         obtain⟨wP,HwP⟩:=Qi (setS wM B (some ⟨P,0,none⟩) N N p4 z most e4)
         have HRP:Hid (RW wr wP B P N (num u) K p4 z most e4 kd ⟨#[]⟩ (.slice none 0 0)):=by
          show RW _ _ _ _ _ _ _ _ _ _ _ _ _ _;rw[<-HwP.out];exact HRL1.out.set p4 z e4
         have HPs:Hid (wr.heap.size<wP.heap.size):=(by show _<_;rw[<-HwP.out];unfold setS;simpa [World.setCell] using HMs0.out);rw[HwP.out] at Hrows3 ⊢;clear HwP HRL1 HMs0 HYB Hrows1 Hadr y0 y1' y2' y3 y4;clear c0 c1 c2 c3 c4 n0 n1 n2 n3 n4 k0 k1 k2 m0 m1 m2;obtain⟨c0,c1,c2,c3,c4,n0,n1,n2,n3,n4⟩:=HRP.out.cells;obtain⟨k0,k1,k2,m0,m1,m2⟩:=HRP.out.kcells;have HLt4:Hid (p<p4):=Qb Hp2.out hpp4;clear hpp4;by_cases he4:e4=0
         . have f0:((e4:Int)==0)=true:=by simp;omega
           have f0b:(e4==0)=true:=(by simp;omega);obtain⟨hn1,hn2,hnl,h15⟩:=Hrows2.out he4;have Hr3:=Qf (Hrows3.out he4);have h15a:∀y ∈ ll.take na,y<=15:=fun y hy=>h15 y (List.mem_of_mem_take hy);have h15b:∀y ∈ ll.drop na,y<=15:=fun y hy=>h15 y (List.mem_of_mem_drop hy)
           have hL3:LR u RES p4 z e4 (fun σ=>Yc (Vc (lenF (ll.take na)) na (lenF (ll.drop na)) nb most σ) (fun S σ4=>Xb most f (l.map LBk.b) (t1,⟨2,[],S⟩) σ4)):=by
            have h:=HL4.out;unfold dynC at h;dsimp only at h;rw[show ll.length-na=nb by omega] at h;exact h
           have H15a:=Qf h15a;have H15b:=Qf h15b;clear hnl h15 h15a h15b HL4 Hrows2 Hrows3 he4;have CT:=Qf (Yae (lenF (ll.take na)) na (fun i _=>Yb5 H15a.out i) hn1 (lenF (ll.drop na)) nb (fun i _=>Yb5 H15b.out i) hn2 x1 x2 y1 y2 P u (by omega) p4 z most e4 hp4 (by omega) (fun _=>hzm) (by omega) RES _ hL3 wP (by rw[HN.out];exact HRP.out.br) Hr3.out.1 Hr3.out.2);rw[HN.out] at CT;unfold SnV SnC at CT;clear hL3;go_wp2_with fail;refine CT.out.mono ?_;rintro r wF ⟨p3,z3,e3,S,v,rfl,HL3x,HOS,-,-,hpp3,hz3,hb3⟩;have HRF:=Qf (HRP.out.below hb3);have Hz3:=Qf hz3;have Hpp3:Hid (e3=0->p<p3):=fun _=>Qb HLt4.out hpp3;have HL3:Hid (LR u RES p3 z3 e3 (Xb most f (l.map LBk.b) (t1,⟨2,[],S⟩))):=HL3x;obtain⟨ta,tc,rfl,htk⟩:=HOS.out.view;have Haddr:Hid (∀b off sp,ta=some ⟨b,off,sp⟩->wr.heap.size<b):=fun b off sp e=>Qb HPs.out (YcT HOS.out b off sp e);have Htk:=Qf htk;clear HL3x hb3 hz3 hpp3 htk HOS CT;clear c0 c1 c2 c3 c4 n0 n1 n2 n3 n4 k0 k1 k2 m0 m1 m2;obtain⟨c0,c1,c2,c3,c4,n0,n1,n2,n3,n4⟩:=HRF.out.cells;obtain⟨k0,k1,k2,m0,m1,m2⟩:=HRF.out.kcells;go_upto_region 22 with(fail);change Code.wp _ _ _ _ ((setS wF B (some ⟨P,0,none⟩) N N p3 z3 most e3).setCell ⟨K,2,none⟩ (.slice ta S.length tc));have HLT0:Hid (TkRow ((setS wF B (some ⟨P,0,none⟩) N N p3 z3 most e3).setCell ⟨K,2,none⟩ (.slice ta S.length tc)) ta S):=(Htk.out.rch (R:=B) (P:=K) (Kd (Rch.refl wF)) (fun b off sp e=>by have h1:=Haddr.out b off sp e;have h2:=HK.out;have h3:=HRF.out.bk;omega)).rch (R:=B) (P:=K) (Ym6 2 _) (fun b off sp e=>by have h1:=Haddr.out b off sp e;have h2:=HK.out;have h3:=HRF.out.bk;omega);obtain⟨wG,HwG⟩:=Qi ((setS wF B (some ⟨P,0,none⟩) N N p3 z3 most e3).setCell ⟨K,2,none⟩ (.slice ta S.length tc))
           have HRG:Hid (RW wr wG B P N (num u) K p3 z3 most e3 kd ⟨#[]⟩ (.slice ta S.length tc)):=by
            show RW _ _ _ _ _ _ _ _ _ _ _ _ _ _;rw[<-HwG.out];exact(HRF.out.set p3 z3 e3).toks HPK.out _
           rw[HwG.out] at HLT0 ⊢;clear HwG HRF Htk;clear c0 c1 c2 c3 c4 n0 n1 n2 n3 n4 k0 k1 k2 m0 m1 m2;obtain⟨c0,c1,c2,c3,c4,n0,n1,n2,n3,n4⟩:=HRG.out.cells;obtain⟨k0,k1,k2,m0,m1,m2⟩:=HRG.out.kcells;have HLT:Hid (LTk wG BB ⟨⟨2,[],S⟩,ta,tc⟩):=⟨HLT0.out,fun b off sp e=>by have h1:=Haddr.out b off sp e;have h2:=HS.out.sz;omega⟩;have HXA:Hid (∀b off sp,(⟨⟨2,[],S⟩,ta,tc⟩:LBk).a=some ⟨b,off,sp⟩->wr.heap.size<=b):=fun b off sp e=>Nat.le_of_lt (Haddr.out b off sp e);rw[hk0.out] at k0;have HBN:Hid (BR most u RES p3 z3 e3 t1 (l.map LBk.b++[(⟨2,[],S⟩:Bk)])):=BR.done (p:=p) HL3.out Hhf.out (fun h=>Hpp3.out h) (fun h=>Hz3.out h);have HSt:=Qf (HS.out.rch HRG.out.rch hBBB hBBB hw1 hw1);have hos:=HSt.out.own;have hbsw:=HSt.out.sz;have hone:=VG 2 ⟨#[]⟩ ta S.length tc
           have hl3:Hid (e3=0->(l++[(⟨⟨2,[],S⟩,ta,tc⟩:LBk)]).length<=p3):=fun h=>by
            have h1:=Hpp3.out h;have h2:=Hlp2.out;rw[List.length_append];show l.length+1<=p3;omega
           have Hmp3:Hid (e3=0->8*u.size+2-p3<M0):=fun h=>by
            have h1:=Hpp3.out h;have h2:=HM0.out;have h3:=Hp8.out;omega
           have HvA:Hid (∀g,u10.ownBlock=some g->g<wr.heap.size):=fun g h=>(World.ownsRow.lt HS.out.own g h).2
           have HM1:Hid (0<M0):=by
            show 0<M0;have h2:=HM0.out;have h3:=Hp8.out;omega
           have HKl:=Qf (HRG.out.sn);have HKr:=Qf (HRG.out.br)
           go_wp2_with (first
            |(at_builtin;go_must (refine Yd wG rfl (.tmp 106) (.tmp 108) rfl Tryz.underlying100 Kk rfl (by decide) BB u10 l.length (YF l) [.int .i64 2,.string ⟨#[]⟩,.slice ta S.length tc] hos rfl hone rfl rfl (by first|rfl|simp) ?_ ?_ hbsw ?_;(unfold maxLen;omega);omega;intro v8 w8 hown8 hg8 hn8;have hb8:=Yb hos hg8 hbsw;have HX8:=Qf (HKl.out.below hb8 hBBB);have HR8:Hid (BRow w8 (some ⟨P,0,none⟩) N (num u)):=Ue HKr.out hb8 HPB2.out;have HS8:=Qf (BSr.app (x:=⟨⟨2,[],S⟩,ta,tc⟩) (wa:=wr) HSt.out hwBB hg8 hown8 hn8 HLT.out HvA.out HXA.out);clear hown8 hg8 hb8 hn8 hos hbsw hone))
            |fail)
           have cm8:Ym w8 ⟨B,4,none⟩=e3:=Yf ((Blk.cell HX8.out 4).trans rfl);have Hcm8:=Qf cm8;have cm9:Ym w8 ⟨B,1,none⟩=p3:=Yf ((Blk.cell HX8.out 1).trans rfl);have Hcm9:=Qf cm9;clear cm8 cm9;go_roundw
           case rel=>exact⟨p3,z3,e3,t1,l++[⟨⟨2,[],S⟩,ta,tc⟩],rfl,hl3,HX8,HS8,HR8,(by rw[List.map_append];exact HBN)⟩
           rw[Hcm0.out,Hcm8.out,Hcm9.out];by_cases h3:e3=0
           . rw[if_pos h3];exact Hmp3.out h3
           rw[if_neg h3];exact HM1.out
         have f0:((e4:Int)==0)=false:=(by simp;omega);have f0b:(e4==0)=false:=(by simp;omega);have He4:=Qf he4;have HL3:Hid (LR u RES p4 z e4 (Xb most f (l.map LBk.b) (t1,⟨2,[],[]⟩))):=HL4.out.moved he4;have Hpp3:Hid (e4=0->p<p4):=fun h=>absurd h He4.out;have Hz3:Hid (e4=0->z<=most):=fun h=>absurd h He4.out;have HLT:Hid (LTk wP BB ⟨⟨2,[],[]⟩,none,0⟩):=⟨.inl rfl,fun b off sp e=>by cases e⟩
         have HXA:Hid (∀b off sp,(⟨⟨2,[],[]⟩,none,0⟩:LBk).a=some ⟨b,off,sp⟩->wr.heap.size<=b):=fun b off sp e=>by cases e
         rw[hk0.out] at k0;clear HL4 Hrows2 Hrows3 he4;have HBN:Hid (BR most u RES p4 z e4 t1 (l.map LBk.b++[(⟨2,[],[]⟩:Bk)])):=BR.done (p:=p) HL3.out Hhf.out (fun h=>Hpp3.out h) (fun h=>Hz3.out h);have HSt:=Qf (HS.out.rch HRP.out.rch hBBB hBBB hw1 hw1);have hos:=HSt.out.own;have hbsw:=HSt.out.sz;have hone:=VG 2 ⟨#[]⟩ none 0 0
         have hl3:Hid (e4=0->(l++[(⟨⟨2,[],[]⟩,none,0⟩:LBk)]).length<=p4):=fun h=>by
          have h1:=Hpp3.out h;have h2:=Hlp2.out;rw[List.length_append];show l.length+1<=p4;omega
         have Hmp3:Hid (e4=0->8*u.size+2-p4<M0):=fun h=>by
          have h1:=Hpp3.out h;have h2:=HM0.out;have h3:=Hp8.out;omega
         have HvA:Hid (∀g,u10.ownBlock=some g->g<wr.heap.size):=fun g h=>(World.ownsRow.lt HS.out.own g h).2
         have HM1:Hid (0<M0):=by
          show 0<M0;have h2:=HM0.out;have h3:=Hp8.out;omega
         have HKl:=Qf (HRP.out.sn);have HKr:=Qf (HRP.out.br)
         go_wp2_with (first
          |(at_builtin;go_must (refine Yd wP rfl (.tmp 106) (.tmp 108) rfl Tryz.underlying100 Kk rfl (by decide) BB u10 l.length (YF l) [.int .i64 2,.string ⟨#[]⟩,.slice none 0 0] hos rfl hone rfl rfl (by first|rfl|simp) ?_ ?_ hbsw ?_;(unfold maxLen;omega);omega;intro v8 w8 hown8 hg8 hn8;have hb8:=Yb hos hg8 hbsw;have HX8:=Qf (HKl.out.below hb8 hBBB);have HR8:Hid (BRow w8 (some ⟨P,0,none⟩) N (num u)):=Ue HKr.out hb8 HPB2.out;have HS8:=Qf (BSr.app (x:=⟨⟨2,[],[]⟩,none,0⟩) (wa:=wr) HSt.out hwBB hg8 hown8 hn8 HLT.out HvA.out HXA.out);clear hown8 hg8 hb8 hn8 hos hbsw hone))
          |fail)
         have cm8:Ym w8 ⟨B,4,none⟩=e4:=Yf ((Blk.cell HX8.out 4).trans rfl);have Hcm8:=Qf cm8;have cm9:Ym w8 ⟨B,1,none⟩=p4:=Yf ((Blk.cell HX8.out 1).trans rfl);have Hcm9:=Qf cm9;clear cm8 cm9;go_roundw
         case rel=>exact⟨p4,z,e4,t1,l++[⟨⟨2,[],[]⟩,none,0⟩],rfl,hl3,HX8,HS8,HR8,(by rw[List.map_append];exact HBN)⟩
         rw[Hcm0.out,Hcm8.out,Hcm9.out];by_cases h3:e4=0
         . rw[if_pos h3];exact Hmp3.out h3
         rw[if_neg h3];exact HM1.out
       have hk3:Hid (kd=3):=by show _=_;omega
       have e0:((kd:Int)==0)=false:=(by simp;omega);have e1:((kd:Int)==1)=false:=(by simp;omega);have e2x:((kd:Int)==2)=false:=by simp;omega
       have hbad:RES=.error 3:=by
        have h:=HL2.out;rw[he2'] at h;exact h.bad (YnJ most t1 kd _ _ hkd hkd1 hkd2)
       have Hbad:=Qf hbad;have He2:Hid (e2=0):=he2';have CW:=Qf (Uz (some ⟨P,0,none⟩) N N p2 z most e2 3 true wE);have hfe:(if (true:Bool)=true then Yu e2 3 else e2)=3:=(by rw[if_pos rfl,he2'];rfl);rw[hfe] at CW;unfold SnV SnC at CW;clear HL2 hbad hfe he2' hkd hkd1 hkd2;go_wp2_with fail;refine CW.out.mono ?_;rintro r wL ⟨rfl,hbL⟩;have HRL:=Qf (HRE.out.below hbL);clear hbL HRE HEs CW;clear c0 c1 c2 c3 c4 n0 n1 n2 n3 n4 k0 k1 k2 m0 m1 m2;obtain⟨c0,c1,c2,c3,c4,n0,n1,n2,n3,n4⟩:=HRL.out.cells;obtain⟨k0,k1,k2,m0,m1,m2⟩:=HRL.out.kcells;go_upto_region 22 with(fail);change Code.wp _ _ _ _ (setS wL B (some ⟨P,0,none⟩) N N p2 z most 3);obtain⟨wG,HwG⟩:=Qi (setS wL B (some ⟨P,0,none⟩) N N p2 z most 3)
       have HRG:Hid (RW wr wG B P N (num u) K p2 z most 3 kd ⟨#[]⟩ (.slice none 0 0)):=by
        show RW _ _ _ _ _ _ _ _ _ _ _ _ _ _;rw[<-HwG.out];exact HRL.out.set p2 z 3
       rw[HwG.out];clear HwG HRL;clear c0 c1 c2 c3 c4 n0 n1 n2 n3 n4 k0 k1 k2 m0 m1 m2;obtain⟨c0,c1,c2,c3,c4,n0,n1,n2,n3,n4⟩:=HRG.out.cells;obtain⟨k0,k1,k2,m0,m1,m2⟩:=HRG.out.kcells;have HL3:Hid (LR u RES p2 z 3 (Xb most f (l.map LBk.b) (t1,⟨3,[],[]⟩))):=.inr ⟨by decide,Hbad.out⟩;have Hpp3:Hid (3=0->p<p2):=fun h=>absurd h (by decide);have Hz3:Hid (3=0->z<=most):=fun h=>absurd h (by decide);have HLT:Hid (LTk wG BB ⟨⟨3,[],[]⟩,none,0⟩):=⟨.inl rfl,fun b off sp e=>by cases e⟩
       have HXA:Hid (∀b off sp,(⟨⟨3,[],[]⟩,none,0⟩:LBk).a=some ⟨b,off,sp⟩->wr.heap.size<=b):=fun b off sp e=>by cases e
       rw[hk3.out] at k0;have HBN:Hid (BR most u RES p2 z 3 t1 (l.map LBk.b++[(⟨3,[],[]⟩:Bk)])):=BR.done (p:=p) HL3.out Hhf.out (fun h=>Hpp3.out h) (fun h=>Hz3.out h);have HSt:=Qf (HS.out.rch HRG.out.rch hBBB hBBB hw1 hw1);have hos:=HSt.out.own;have hbsw:=HSt.out.sz;have hone:=VG 3 ⟨#[]⟩ none 0 0
       have hl3:Hid (3=0->(l++[(⟨⟨3,[],[]⟩,none,0⟩:LBk)]).length<=p2):=fun h=>by
        have h1:=Hpp3.out h;have h2:=Hlp2.out;rw[List.length_append];show l.length+1<=p2;omega
       have Hmp3:Hid (3=0->8*u.size+2-p2<M0):=fun h=>by
        have h1:=Hpp3.out h;have h2:=HM0.out;have h3:=Hp8.out;omega
       have HvA:Hid (∀g,u10.ownBlock=some g->g<wr.heap.size):=fun g h=>(World.ownsRow.lt HS.out.own g h).2
       have HM1:Hid (0<M0):=by
        show 0<M0;have h2:=HM0.out;have h3:=Hp8.out;omega
       have HKl:=Qf (HRG.out.sn);have HKr:=Qf (HRG.out.br)
       go_wp2_with (first
        |(at_builtin;go_must (refine Yd wG rfl (.tmp 106) (.tmp 108) rfl Tryz.underlying100 Kk rfl (by decide) BB u10 l.length (YF l) [.int .i64 3,.string ⟨#[]⟩,.slice none 0 0] hos rfl hone rfl rfl (by first|rfl|simp) ?_ ?_ hbsw ?_;(unfold maxLen;omega);omega;intro v8 w8 hown8 hg8 hn8;have hb8:=Yb hos hg8 hbsw;have HX8:=Qf (HKl.out.below hb8 hBBB);have HR8:Hid (BRow w8 (some ⟨P,0,none⟩) N (num u)):=Ue HKr.out hb8 HPB2.out;have HS8:=Qf (BSr.app (x:=⟨⟨3,[],[]⟩,none,0⟩) (wa:=wr) HSt.out hwBB hg8 hown8 hn8 HLT.out HvA.out HXA.out);clear hown8 hg8 hb8 hn8 hos hbsw hone))
        |fail)
       have cm8:Ym w8 ⟨B,4,none⟩=3:=Yf ((Blk.cell HX8.out 4).trans rfl);have Hcm8:=Qf cm8;have cm9:Ym w8 ⟨B,1,none⟩=p2:=Yf ((Blk.cell HX8.out 1).trans rfl);have Hcm9:=Qf cm9;clear cm8 cm9;go_roundw
       case rel=>exact⟨p2,z,3,t1,l++[⟨⟨3,[],[]⟩,none,0⟩],rfl,hl3,HX8,HS8,HR8,(by rw[List.map_append];exact HBN)⟩
       rw[Hcm0.out,Hcm8.out,Hcm9.out];by_cases h3:3=0
       . rw[if_pos h3];exact Hmp3.out h3
       rw[if_neg h3];exact HM1.out
     have hkd:=Hkz.out he2';have hk0:Hid (kd=0):=hkd;have e0:((kd:Int)==0)=true:=(by simp;omega);have CS:=Qf (Yaf P u (by omega) p2 z most e2 (by omega) (by omega) (by omega) (.error e2) (fun _ _=>(.ok ([],⟨0,0,0⟩):Rs (List Bk))) (.inr ⟨he2',rfl⟩) wE (by rw[HN.out];exact HRE.out.br));rw[HN.out] at CS;unfold SnV SnC at CS
     have HL2b:Hid (RES=.error e2):=by
      rcases HL2.out with⟨h,_⟩|⟨_,h⟩
      . exact absurd h he2'
      exact h
     have He2:=Qf he2';clear HL2 hkd he2';go_wp2_with fail;refine CS.out.mono ?_;rintro r wF ⟨p3,z3,e3,lb,rfl,HL3x,hpp3,hz3,hb3⟩;have HRF:=Qf (HRE.out.below hb3)
     have He3:Hid (e3=e2):=by
      show _=_;rcases HL3x.out with⟨_,_,h⟩|⟨_,h⟩
      . cases h
      injection h with h;exact h.symm
     have Hz3:Hid (e3=0->z3<=most):=fun h=>absurd (He3.out.symm.trans h) He2.out;have Hpp3:Hid (e3=0->p<p3):=fun h=>absurd (He3.out.symm.trans h) He2.out;have HL3:Hid (LR u RES p3 z3 e3 (Xb most f (l.map LBk.b) (t1,⟨0,lb,[]⟩))):=.inr ⟨by rw[He3.out];exact He2.out,by rw[He3.out];exact HL2b.out⟩;clear HL3x;have HFs:=Qf (Qb HEs.out hb3.size);clear hb3 HRE CS HEs hz3 hpp3;clear c0 c1 c2 c3 c4 n0 n1 n2 n3 n4 k0 k1 k2 m0 m1 m2;obtain⟨c0,c1,c2,c3,c4,n0,n1,n2,n3,n4⟩:=HRF.out.cells;obtain⟨k0,k1,k2,m0,m1,m2⟩:=HRF.out.kcells;go_upto_region 22 with(fail);change Code.wp _ _ _ _ ((setS wF B (some ⟨P,0,none⟩) N N p3 z3 most e3).setCell ⟨K,1,none⟩ (.string ⟨lb.toArray⟩));obtain⟨wG,HwG⟩:=Qi ((setS wF B (some ⟨P,0,none⟩) N N p3 z3 most e3).setCell ⟨K,1,none⟩ (.string ⟨lb.toArray⟩))
     have HRG:Hid (RW wr wG B P N (num u) K p3 z3 most e3 kd ⟨lb.toArray⟩ (.slice none 0 0)):=by
      show RW _ _ _ _ _ _ _ _ _ _ _ _ _ _;rw[<-HwG.out];exact(HRF.out.set p3 z3 e3).text HPK.out _
     rw[HwG.out];clear HwG HRF;clear c0 c1 c2 c3 c4 n0 n1 n2 n3 n4 k0 k1 k2 m0 m1 m2;obtain⟨c0,c1,c2,c3,c4,n0,n1,n2,n3,n4⟩:=HRG.out.cells;obtain⟨k0,k1,k2,m0,m1,m2⟩:=HRG.out.kcells;have HLT:Hid (LTk wG BB ⟨⟨0,lb,[]⟩,none,0⟩):=⟨.inl rfl,fun b off sp e=>by cases e⟩
     have HXA:Hid (∀b off sp,(⟨⟨0,lb,[]⟩,none,0⟩:LBk).a=some ⟨b,off,sp⟩->wr.heap.size<=b):=fun b off sp e=>by cases e
     rw[hk0.out] at k0;have HBN:Hid (BR most u RES p3 z3 e3 t1 (l.map LBk.b++[(⟨0,lb,[]⟩:Bk)])):=BR.done (p:=p) HL3.out Hhf.out (fun h=>Hpp3.out h) (fun h=>Hz3.out h);have HSt:=Qf (HS.out.rch HRG.out.rch hBBB hBBB hw1 hw1);have hos:=HSt.out.own;have hbsw:=HSt.out.sz;have hone:=VG 0 ⟨lb.toArray⟩ none 0 0
     have hl3:Hid (e3=0->(l++[(⟨⟨0,lb,[]⟩,none,0⟩:LBk)]).length<=p3):=fun h=>by
      have h1:=Hpp3.out h;have h2:=Hlp2.out;rw[List.length_append];show l.length+1<=p3;omega
     have Hmp3:Hid (e3=0->8*u.size+2-p3<M0):=fun h=>by
      have h1:=Hpp3.out h;have h2:=HM0.out;have h3:=Hp8.out;omega
     have HvA:Hid (∀g,u10.ownBlock=some g->g<wr.heap.size):=fun g h=>(World.ownsRow.lt HS.out.own g h).2
     have HM1:Hid (0<M0):=by
      show 0<M0;have h2:=HM0.out;have h3:=Hp8.out;omega
     have HKl:=Qf (HRG.out.sn);have HKr:=Qf (HRG.out.br)
     go_wp2_with (first
      |(at_builtin;go_must (refine Yd wG rfl (.tmp 106) (.tmp 108) rfl Tryz.underlying100 Kk rfl (by decide) BB u10 l.length (YF l) [.int .i64 0,.string ⟨lb.toArray⟩,.slice none 0 0] hos rfl hone rfl rfl (by first|rfl|simp) ?_ ?_ hbsw ?_;(unfold maxLen;omega);omega;intro v8 w8 hown8 hg8 hn8;have hb8:=Yb hos hg8 hbsw;have HX8:=Qf (HKl.out.below hb8 hBBB);have HR8:Hid (BRow w8 (some ⟨P,0,none⟩) N (num u)):=Ue HKr.out hb8 HPB2.out;have HS8:=Qf (BSr.app (x:=⟨⟨0,lb,[]⟩,none,0⟩) (wa:=wr) HSt.out hwBB hg8 hown8 hn8 HLT.out HvA.out HXA.out);clear hown8 hg8 hb8 hn8 hos hbsw hone))
      |fail)
     have cm8:Ym w8 ⟨B,4,none⟩=e3:=Yf ((Blk.cell HX8.out 4).trans rfl);have Hcm8:=Qf cm8;have cm9:Ym w8 ⟨B,1,none⟩=p3:=Yf ((Blk.cell HX8.out 1).trans rfl);have Hcm9:=Qf cm9;clear cm8 cm9;go_roundw
     case rel=>exact⟨p3,z3,e3,t1,l++[⟨⟨0,lb,[]⟩,none,0⟩],rfl,hl3,HX8,HS8,HR8,(by rw[List.map_append];exact HBN)⟩
     rw[Hcm0.out,Hcm8.out,Hcm9.out];by_cases h3:e3=0
     . rw[if_pos h3];exact Hmp3.out h3
     rw[if_neg h3];exact HM1.out
   have d5:((t:Int)==0)=false:=by simp;omega
   have d5b:(t==0)=false:=by simp;omega
   have hne:((e:Int)!=0)=false:=by simp;omega
   have hRes:=HBR.out;have hts:Hid (t ≠ 0):=ht;have hes:Hid (e=0):=he;clear ht he
   have HRs:Hid (p<=8*u.size/\z<=most/\RES=.ok (l.map LBk.b,sg u p z)):=by
    rcases hRes with⟨_,h1,h2,⟨h3,_⟩|⟨_,h3⟩⟩|⟨h3,_⟩
    . exact absurd h3 hts.out
    . exact⟨h1,h2,h3⟩
    exact absurd hes.out h3
   have hp8:=HRs.out.1;have hpN:p<=100000:=by omega
   have q1:((p:Int)+7).tdiv 8=(((p+7)/8:Nat):Int):=by rw[Int.tdiv_eq_ediv_of_nonneg (by omega)];omega
   obtain⟨k,Hk⟩:=Qi ((p+7)/8);rw[Hk.out] at q1;have hkv:=Hk.out;have q2:((p:Int)+7)/8=(k:Int):=by omega
   have q3:IntKind.i64.wrap ((p:Int)+7)=(p:Int)+7:=by rw[IntKind.wrap_i64];omega
   have q4:IntKind.i64.wrap (k:Int)=(k:Int):=by rw[IntKind.wrap_i64];omega
   have c1d:wr.drew.cell? ⟨B,1,none⟩=some (.int .i64 (p:Int)):=c1;clear hRes hkv hp8;go_wp2_with fail
   go_region
   all_goals
    go_wp2_with fail
    go_ret3
    exact⟨Yh HS.out.bel 1,.inr ⟨l,p,z,u10,BB,HRs.out.2.2,HRs.out.1,HRs.out.2.1,by rw[Hk.out];rfl,hwBB,Yk0 HS.out⟩⟩
 have d4:((e:Int)==0)=false:=by simp;omega
 have d4b:(e==0)=false:=by simp;omega
 have hne:((e:Int)!=0)=true:=by simp;omega
 have hneb:(e !=0)=true:=by simp;omega
 have HRs:Hid (e ≠ 0/\RES=.error e):=by
  rcases HBR.out with⟨h0,_⟩|⟨h1,h2⟩
  . exact absurd h0 he
  exact⟨h1,h2⟩
 have c4d:wr.drew.cell? ⟨B,4,none⟩=some (.int .i64 (e:Int)):=c4;clear he;by_cases ht:t=0
 . have d5:((t:Int)==0)=true:=by simp;omega
   clear ht;go_wp2_with fail
   go_region
   all_goals
    go_wp2_with fail
    go_ret3
    exact⟨Yh HS.out.bel 1,.inl ⟨e,HRs.out.1,HRs.out.2,rfl⟩⟩
 have d5:((t:Int)==0)=false:=by simp;omega
 clear ht;go_wp2_with fail
 go_region
 all_goals
  go_wp2_with fail
  go_ret3
  exact⟨Yh HS.out.bel 1,.inl ⟨e,HRs.out.1,HRs.out.2,rfl⟩⟩
end Go.Proofs.YthehocmfpoglgaaGreat
