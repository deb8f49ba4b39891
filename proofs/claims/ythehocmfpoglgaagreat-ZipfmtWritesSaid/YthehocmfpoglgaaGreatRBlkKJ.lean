/- inflate's blocks in memory. Conditions: none. -/
import Derived.Test.YthehocmfpoglgaaGreatRLenJ
namespace Go.Proofs.YthehocmfpoglgaaGreat
open Go.RowKit
set_option maxRecDepth 100000
theorem Xi:(Tryz.prog.info? 144).map (fun i=>(i.zero,i.size,i.bytes))=some (some (.agg #[.int .i64 0,.string ⟨#[]⟩,.slice none 0 0]),3,48):=by kernel_rfl
structure LBk where
 b:Bk
 a:Option Addr
 cap:Nat
def lbc (x:LBk):List Value:=[.int .i64 (x.b.kind:Int),.string ⟨x.b.bytes.toArray⟩,.slice x.a x.b.toks.length x.cap]
def YF (l:List LBk):List Value:=l.flatMap lbc
theorem Uk (l m:List LBk):YF (l++m)=YF l++YF m:=by simp[YF]
def LTk (w:World) (base:Nat) (x:LBk):Prop:=TkRow w x.a x.b.toks/\∀b off sp,x.a=some ⟨b,off,sp⟩->base<=b
section
variable {R P:Nat} {w w':World}
theorem TkRow.rch {a:Option Addr} {S:List Tok} (h:TkRow w a S) (hc:Rch R P w w') (hn:∀b off sp,a=some ⟨b,off,sp⟩->b ≠ R/\b ≠ P):TkRow w' a S:=by
 rcases h with h|⟨b,off,e,hb,hcell⟩
 . exact .inl h
 obtain⟨h2,h3⟩:=hn b off none e;refine .inr ⟨b,off,e,Qb hb hc.2.2.2.1,fun i hi=>?_⟩;obtain⟨c0,c1,c2⟩:=hcell i hi;exact⟨(hc.cell hb h2 h3).trans c0,(hc.cell hb h2 h3).trans c1,(hc.cell hb h2 h3).trans c2⟩
theorem TkRow.grown {a:Option Addr} {S:List Tok} {row:Option Nat} (h:TkRow w a S) (hg:w.grownBy w' row) (hn:0<S.length->∀b off sp,a=some ⟨b,off,sp⟩->some b ≠ row):TkRow w' a S:=by
 rcases Nat.eq_zero_or_pos S.length with h0|h0
 . exact .inl h0
 rcases h with h|⟨b,off,e,hb,hcell⟩
 . exact .inl h
 have h2:=hn h0 b off none e;refine .inr ⟨b,off,e,Qb hb hg.size,fun i hi=>?_⟩;obtain⟨c0,c1,c2⟩:=hcell i hi
 have hx:∀o,w'.cell? ⟨b,o,none⟩=w.cell? ⟨b,o,none⟩:=fun o=>by unfold World.cell?;rw[hg.block b hb h2]
 exact⟨(hx _).trans c0,(hx _).trans c1,(hx _).trans c2⟩
end
structure BS (w0:World) (BB:Nat) (v:Value) (l:List LBk) (wt:World):Prop where
 own:wt.ownsRow BB 144 3 v l.length (YF l)
 tk:∀x ∈ l,LTk wt BB x
 far:∀x ∈ l,0<x.b.toks.length->∀b off sp,x.a=some ⟨b,off,sp⟩->v.ownBlock ≠ some b
 bel:Below w0.heap.size w0 wt
 sz:BB<=wt.heap.size
section
variable {w0 wt w':World} {R P BB:Nat} {v v':Value} {l:List LBk}
theorem BS.rch (h:BS w0 BB v l wt) (hc:Rch R P wt w') (hR:R<BB) (hP:P<BB) (h0R:w0.heap.size<=R) (h0P:w0.heap.size<=P):BS w0 BB v l w':=
 ⟨Ku h.own hc hR hP,fun x hx=>⟨(h.tk x hx).1.rch hc fun b off sp e=>by have:=(h.tk x hx).2 b off sp e;omega,(h.tk x hx).2⟩,h.far,
  hc.old h.bel h.bel.size h0R h0P,Qe h.sz hc.2.2.2.1⟩
theorem BS.app {x:LBk} {wa:World} (h:BS w0 BB v l wt) (h0:w0.heap.size<=BB) (hg:wt.grownBy w' v.ownBlock) (hown:w'.ownsRow BB 144 3 v' (l.length+1) (YF l++lbc x)) (hnew:∀g,g<wt.heap.size->v.ownBlock ≠ some g->v'.ownBlock ≠ some g)
 (hx:LTk wt BB x) (hA:∀g,v.ownBlock=some g->g<wa.heap.size) (hxa:∀b off sp,x.a=some ⟨b,off,sp⟩->wa.heap.size<=b):BS w0 BB v' (l++[x]) w':=by
 have hlt:=World.ownsRow.lt h.own
 have hxf:∀b off sp,x.a=some ⟨b,off,sp⟩->v.ownBlock ≠ some b:=fun b off sp e e2=>by
  have:=hA b e2;have:=hxa b off sp e;omega
 refine⟨?_,?_,?_,?_,Qe h.sz hg.size⟩
 . rw[List.length_append,Uk]
   have e:YF [x]=lbc x:=by unfold YF;simp
   rw[e];exact hown
 . intro y hy
   rcases List.mem_append.1 hy with hy|hy
   . exact⟨(h.tk y hy).1.grown hg fun h0 b off sp e e2=>h.far y hy h0 b off sp e e2.symm,(h.tk y hy).2⟩
   rw[List.mem_singleton.1 hy];exact⟨hx.1.grown hg fun _ b off sp e e2=>hxf b off sp e e2.symm,hx.2⟩
 . intro y hy h0 b off sp e
   have hin:∀y:LBk,TkRow wt y.a y.b.toks->0<y.b.toks.length->y.a=some ⟨b,off,sp⟩->b<wt.heap.size:=fun y hy h0 e=>by
    rcases hy with h|⟨b',off',e',hb,_⟩
    . omega
    rw[e'] at e;injection e with e;injection e with e;omega
   rcases List.mem_append.1 hy with hy|hy
   . exact hnew b (hin y (h.tk y hy).1 h0 e) (h.far y hy h0 b off sp e)
   rw[List.mem_singleton.1 hy] at e h0;exact hnew b (hin x hx.1 h0 e) (hxf b off sp e)
 exact⟨hg.os.trans h.bel.os,hg.tape.trans h.bel.tape,hg.output.trans h.bel.output,Qe h.bel.size hg.size,fun g hgl=>(hg.block g (Qb hgl h.bel.size) (fun e=>by
  have:=(hlt g e.symm).1
  omega)).trans (h.bel.block g hgl)⟩
end
theorem VG (k:Int) (t:ByteArray) (a:Option Addr) (n c:Nat):∀u ∈ ([.int .i64 k,.string t,.slice a n c]:List Value),u.oneCell'=true:=by
 intro u hu;simp only[List.mem_cons,List.not_mem_nil,or_false] at hu;rcases hu with rfl|rfl|rfl<;>rfl
theorem YaV (R P:Nat) (s:ByteArray) (p z most e:Nat) (he:e ≠ 0) (v1 v2:Value) (w:World) (hR:RdAt w R P s p z most e) :
 Calls Tryz.prog 74 #[.pointer (some ⟨R,0,none⟩),v1,v2] w fun r w'=>r=.returned (.slice none 0 0)/\RdAt w' R P s p z most e/\Rch R P w w':=by
 have H1:=Qf (UM R P s p z most e he v1 w hR);have H2:=Qf (fun W h=>UM R P s p z most e he v2 W h);have de:((e:Int)==0)=false:=by simp;omega
 clear hR;go_enter Tryz.func74,Tryz.ntmps74;go_wp2_with fail;refine H1.out.mono ?_;rintro r w1 ⟨rfl,hR1,hC1⟩;have HR1:=Qf hR1;have HC1:=Qf hC1;clear hR1 hC1 H1;go_wp2_with fail;refine(H2.out _ HR1.out).mono ?_;rintro r w2 ⟨rfl,hR2,hC2⟩;have HR2:=Qf hR2;have HC2:=Qf (HC1.out.trans hC2);clear hR2 hC2 HR1 HC1 H2;go_wp2_with fail
 go_loopw [9] (fun v_ wr=>v_=.slice none 0 0/\wr=w2) (fun _ _=>0)
 case atStart=>exact⟨rfl,rfl⟩
 obtain⟨rfl,hw2⟩:=hrel;have hw3:=hw2.symm;subst hw3;have c3:=HR2.out.1.cell 3;simp at c3;go_wp2_with fail;go_ret;exact⟨rfl,HR2.out,HC2.out⟩
end Go.Proofs.YthehocmfpoglgaaGreat
