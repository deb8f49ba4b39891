/- Texts joined: SBlkK TokX StepP. Conditions: each theorem says its own. -/
import Derived.Test.YthehocmfpoglgaaGreatRBlkKJ
import Derived.Test.YthehocmfpoglgaaGreatSeenDJ
import Derived.Test.YthehocmfpoglgaaGreatJikjhbb
namespace Go.Proofs.YthehocmfpoglgaaGreat
open Go.RowKit
set_option maxRecDepth 100000
theorem Kk:(Tryz.prog.info? 105).map (fun i=>(i.zero,i.size,i.bytes))=some (some (.agg #[.int .i64 0,.string ⟨#[]⟩,.slice none 0 0]),3,48):=by kernel_rfl
structure BSr (w0:World) (BB:Nat) (v:Value) (l:List LBk) (wt:World):Prop where
 own:wt.ownsRow BB 105 3 v l.length (YF l)
 tk:∀x ∈ l,LTk wt BB x
 far:∀x ∈ l,0<x.b.toks.length->∀b off sp,x.a=some ⟨b,off,sp⟩->v.ownBlock ≠ some b
 bel:Below w0.heap.size w0 wt
 sz:BB<=wt.heap.size
section
variable {w0 wt w':World} {R P BB:Nat} {v v':Value} {l:List LBk}
theorem BSr.rch (h:BSr w0 BB v l wt) (hc:Rch R P wt w') (hR:R<BB) (hP:P<BB) (h0R:w0.heap.size<=R) (h0P:w0.heap.size<=P):BSr w0 BB v l w':=
 ⟨Ku h.own hc hR hP,fun x hx=>⟨(h.tk x hx).1.rch hc fun b off sp e=>by have:=(h.tk x hx).2 b off sp e;omega,(h.tk x hx).2⟩,h.far,
  hc.old h.bel h.bel.size h0R h0P,Qe h.sz hc.2.2.2.1⟩
theorem BSr.app {x:LBk} {wa:World} (h:BSr w0 BB v l wt) (h0:w0.heap.size<=BB) (hg:wt.grownBy w' v.ownBlock) (hown:w'.ownsRow BB 105 3 v' (l.length+1) (YF l++lbc x)) (hnew:∀g,g<wt.heap.size->v.ownBlock ≠ some g->v'.ownBlock ≠ some g)
 (hx:LTk wt BB x) (hA:∀g,v.ownBlock=some g->g<wa.heap.size) (hxa:∀b off sp,x.a=some ⟨b,off,sp⟩->wa.heap.size<=b):BSr w0 BB v' (l++[x]) w':=by
 have hlt:=World.ownsRow.lt h.own
 have hxf:∀b off sp,x.a=some ⟨b,off,sp⟩->v.ownBlock ≠ some b:=fun b off sp e e2=>by
  have:=hA b e2;have:=hxa b off sp e;omega
 refine⟨?_,?_,?_,?_,Qe h.sz hg.size⟩
 . rw[List.length_append,Uk]
   have e:YF [x]=lbc x:=by unfold YF;simp
   rw[e];exact hown
 . intro y hy
   rcases List.mem_append.1 hy with hy|hy
   . exact⟨(h.tk y hy).1.grown hg fun h0 b off sp e e2=>h.far y hy h0 b off sp e e2.symm,(h.tk y hy).2⟩
   rw[List.mem_singleton.1 hy];exact⟨hx.1.grown hg fun _ b off sp e e2=>hxf b off sp e e2.symm,hx.2⟩
 . intro y hy h0 b off sp e
   have hin:∀y:LBk,TkRow wt y.a y.b.toks->0<y.b.toks.length->y.a=some ⟨b,off,sp⟩->b<wt.heap.size:=fun y hy h0 e=>by
    rcases hy with h|⟨b',off',e',hb,_⟩
    . omega
    rw[e'] at e;injection e with e;injection e with e;omega
   rcases List.mem_append.1 hy with hy|hy
   . exact hnew b (hin y (h.tk y hy).1 h0 e) (h.far y hy h0 b off sp e)
   rw[List.mem_singleton.1 hy] at e h0;exact hnew b (hin x hx.1 h0 e) (hxf b off sp e)
 exact⟨hg.os.trans h.bel.os,hg.tape.trans h.bel.tape,hg.output.trans h.bel.output,Qe h.bel.size hg.size,fun g hgl=>(hg.block g (Qb hgl h.bel.size) (fun e=>by
  have:=(hlt g e.symm).1
  omega)).trans (h.bel.block g hgl)⟩
end
theorem U5 (s t:ByteArray):(s++t).data.toList=s.data.toList++t.data.toList:=by rw[ByteArray.data_append,Array.toList_append]
theorem Yed (s:ByteArray) (q:Nat) (hq:q<s.size):(s.extract q (q+1)).data.toList=[s.data.toList.getD q 0]:=by
 rw[ByteArray.data_extract,Array.toList_extract,List.extract_eq_take_drop,show q+1-q=1 by omega];have hl:q<s.data.toList.length:=by simpa using hq
 rw[List.drop_eq_getElem_cons hl,List.getD_eq_getElem?_getD,List.getElem?_eq_getElem hl];simp
def ln (L:List Int) (i:Nat):Int:=L.getD i 0
def runN (L:List Int) (i:Nat):Nat:=((L.drop i).takeWhile fun x=>x==ln L i).length
structure Stp where
 sym:Int
 more:Int
def Yz (L:List Int) (i:Nat):Stp × Nat:=
 if ln L i=0/\11<=runN L i then (⟨18,((min (runN L i) 138:Nat):Int)-11⟩,min (runN L i) 138)
 else if ln L i=0/\3<=runN L i then (⟨17,((min (runN L i) 10:Nat):Int)-3⟩,min (runN L i) 10)
 else if 0<i/\ln L i=ln L (i-1)/\3<=runN L i then (⟨16,((min (runN L i) 6:Nat):Int)-3⟩,min (runN L i) 6)
 else (⟨ln L i,0⟩,1)
theorem K0 (L:List Int) (i:Nat):1<=(Yz L i).2:=by
 unfold Yz;split
 . simp only;omega
 split
 . simp only;omega
 split
 . simp only;omega
 exact Qa _
def Ye (L:List Int) (i:Nat):List Stp:=
 if i<L.length then (Yz L i).1::Ye L (i+(Yz L i).2) else []
termination_by L.length-i
decreasing_by
 have:=K0 L i;omega
theorem Xl (L:List Int) (i:Nat) (h:i<L.length):Ye L i=(Yz L i).1::Ye L (i+(Yz L i).2):=by
 rw[Ye,if_pos h]
theorem VE (L:List Int) (i:Nat) (h:¬i<L.length):Ye L i=[]:=by
 rw[Ye,if_neg h]
theorem YmW (x:Int) (M:List Int) (n:Nat) (hn:n<=M.length) (h1:∀j,j<n->M.getD j 0=x) (h2:n=M.length\/M.getD n 0 ≠ x):(M.takeWhile fun y=>y==x).length=n:=by
 induction M generalizing n with
 |nil=>simp at hn;subst hn;rfl
 |cons y r ih=>
  cases n with
  |zero=>
   have h3:y ≠ x:=by
    rcases h2 with h|h
    . simp at h
    simpa using h
   have:(y==x)=false:=by simpa using h3
   simp[List.takeWhile,this]
  |succ n=>
   have h0:y=x:=by simpa using h1 0 (by omega)
   have:(y==x)=true:=by simpa using h0
   simp only[List.takeWhile,this,List.length_cons]
   rw[ih n (by simpa using hn) (fun j hj=>by simpa using h1 (j+1) (by omega)) (by
    rcases h2 with h|h
    . left;simpa using h
    right;simpa using h)]
theorem YhH (L:List Int) (i n:Nat) (hn:i+n<=L.length) (h1:∀j,j<n->ln L (i+j)=ln L i) (h2:i+n=L.length\/ln L (i+n) ≠ ln L i):runN L i=n:=by
 have hd:∀j,(L.drop i).getD j 0=ln L (i+j):=fun j=>by simp[ln,List.getD]
 refine YmW (ln L i) (L.drop i) n (by rw[List.length_drop];omega) (fun j hj=>by rw[hd];exact h1 j hj) ?_;rw[hd,List.length_drop];rcases h2 with h|h
 . left;omega
 exact .inr h
end Go.Proofs.YthehocmfpoglgaaGreat
